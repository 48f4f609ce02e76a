/-
  LearnFrom: plain laws.
-/
import Derived.Test.YtcpbgjnijhcpkaaModelsP
import Derived.Test.YtcpbgjnijhcpkaaJoin
import Derived.Deep.DeepCutAuto
import Derived.Test.YtcpbgjnijhcpkaaFormA
import Derived.Test.YtcpbgjnijhcpkaaTwoC
import Derived.Test.YtcpbgjnijhcpkaaThin
import Derived.Test.YtcpbgjnijhcpkaaUnitsOf
import Derived.Test.YtcpbgjnijhcpkaaPure
import Derived.Test.YtcpbgjnijhcpkaaConcat
import Derived.Test.YtcpbgjnijhcpkaaOwn2
import Derived.Test.YtcpbgjnijhcpkaaBase
import Derived.Test.YtcpbgjnijhcpkaaNum
import Derived.BigQuiet
import Derived.ProofKit
import Derived.OpenShut
import Derived.ShutString
import Derived.ChangeOld
import Derived.Below
import Derived.Deep.Slices
import Derived.Test.YtcpbgjnijhcpkaaAppII
import Derived.Deep.RegionLaw
import Derived.Test.YtcpbgjnijhcpkaaForm
import Derived.StillTailTactics
import Derived.Test.YtcpbgjnijhcpkaaProof
namespace Go.Proofs.Ytcpbgjnijhcpkaa
open Go.RowKit
set_option linter.unusedVariables false
set_option maxRecDepth 100000

theorem form_allP {bs : List Bool} {cs : List (List Int)} : formTrue bs cs = true ↔ ∀ c ∈ cs, clauseTrue bs c = true := by
  rw [formTrue, decide_eq_true_eq, heldN, List.countP_eq_length]
theorem clause_any {bs : List Bool} {c : List Int} : clauseTrue bs c = true ↔ ∃ y ∈ c, litTrue bs y = true := by
  rw [clauseTrue, List.any_eq_true]
/-- the numbers of values with the letter x turned -/
def flip (L x n : Nat) : Nat := n ^^^ 2 ^ (L - x)
theorem flip_lt {L x n : Nat} (h1 : 1 ≤ x) (h2 : x ≤ L) (hn : n < 2 ^ L) : flip L x n < 2 ^ L :=
  Nat.xor_lt_two_pow hn (Nat.pow_lt_pow_right (by decide) (by omega))
theorem flip_flip (L x n : Nat) : flip L x (flip L x n) = n := by
  unfold flip; rw [Nat.xor_assoc, Nat.xor_self, Nat.xor_zero]
theorem bit_flip (L x n k : Nat) : bitN (flip L x n) k = (bitN n k != decide (L - x = k)) := by
  rw [bitN_test, bitN_test, flip, Nat.testBit_xor, Nat.testBit_two_pow]
theorem flip_ne (L x n : Nat) : flip L x n ≠ n := by
  intro h
  have := bit_flip L x n (L - x)
  rw [h] at this
  cases h2 : bitN n (L - x) <;> rw [h2] at this <;> simp at this
/-- a literal by the values with number n -/
def litN (L n : Nat) (y : Int) : Bool := litTrue (valuesN L n) y
theorem litN_bit {L n : Nat} {y : Int} (h1 : 0 < absI y) (h2 : absI y ≤ (L : Int)) : litN L n y = (bitN n (L - (absI y).toNat) == decide (0 < y)) := by
  unfold litN litTrue
  rw [valuesN_get L n (absI y).toNat (by omega) (by omega)]
theorem litN_neg {L n : Nat} {y : Int} (h1 : 0 < absI y) (h2 : absI y ≤ (L : Int)) : litN L n (-y) = !litN L n y := by
  have e : absI (-y) = absI y := by unfold absI; split <;> split <;> omega
  have h0 : y ≠ 0 := by intro h; rw [h] at h1; exact absurd h1 (by decide)
  rw [litN_bit (by rw [e]; exact h1) (by rw [e]; exact h2), litN_bit h1 h2, e]
  by_cases hy : 0 < y
  · rw [decide_eq_true hy, decide_eq_false (show ¬ 0 < -y by omega)]; cases bitN n (L - (absI y).toNat) <;> rfl
  · rw [decide_eq_false hy, decide_eq_true (show 0 < -y by omega)]; cases bitN n (L - (absI y).toNat) <;> rfl
theorem litN_flip {L x n : Nat} {y : Int} (hx1 : 1 ≤ x) (hx2 : x ≤ L) (h1 : 0 < absI y) (h2 : absI y ≤ (L : Int)) : litN L (flip L x n) y = (litN L n y != decide (absI y = (x : Int))) := by
  rw [litN_bit h1 h2, litN_bit h1 h2, bit_flip]
  have e : decide (L - x = L - (absI y).toNat) = decide (absI y = (x : Int)) := decide_eq_decide.2 (by omega)
  rw [e]
  cases bitN n (L - (absI y).toNat) <;> cases decide (absI y = (x : Int)) <;> cases decide (0 < y) <;> rfl
theorem countP_split (p b : Nat → Bool) (l : List Nat) : l.countP p = l.countP (fun n => p n && b n) + l.countP (fun n => p n && !b n) := by
  induction l with
  | nil => rfl
  | cons a r ih =>
    rw [List.countP_cons, List.countP_cons, List.countP_cons, ih]
    cases p a <;> cases b a <;> simp <;> omega
theorem count_flip {L x : Nat} (h1 : 1 ≤ x) (h2 : x ≤ L) (q : Nat → Bool) : (List.range (2 ^ L)).countP (fun n => q (flip L x n)) = (List.range (2 ^ L)).countP q := by
  have hp : ((List.range (2 ^ L)).map (flip L x)).Perm (List.range (2 ^ L)) := by
    refine (List.perm_ext_iff_of_nodup ?_ List.nodup_range).2 fun a => ?_
    · refine List.pairwise_map.2 (List.Pairwise.imp (fun {a b} hab h => hab ?_) (List.nodup_range (n := 2 ^ L)))
      rw [← flip_flip L x a, h, flip_flip]
    · rw [List.mem_map, List.mem_range]
      constructor
      · rintro ⟨n, hn, rfl⟩; exact flip_lt h1 h2 (List.mem_range.1 hn)
      · intro ha; exact ⟨flip L x a, List.mem_range.2 (flip_lt h1 h2 ha), flip_flip L x a⟩
  have := hp.countP_eq q
  rw [List.countP_map] at this
  exact this
theorem count_congr {p q : Nat → Bool} {N : Nat} (h : ∀ n, n < N → p n = q n) : (List.range N).countP p = (List.range N).countP q := by
  apply List.countP_congr
  intro n hn
  rw [h n (List.mem_range.1 hn)]
theorem count_half {L x : Nat} (h1 : 1 ≤ x) (h2 : x ≤ L) {g b : Nat → Bool} (hg : ∀ n, n < 2 ^ L → g (flip L x n) = g n) (hb : ∀ n, n < 2 ^ L → b (flip L x n) = !b n) :
    (List.range (2 ^ L)).countP g = 2 * (List.range (2 ^ L)).countP (fun n => g n && b n) := by
  have e : (List.range (2 ^ L)).countP (fun n => g n && !b n) = (List.range (2 ^ L)).countP (fun n => g n && b n) := by
    rw [← count_flip h1 h2 (fun n => g n && b n)]
    exact count_congr fun n hn => by rw [hg n hn, hb n hn]
  rw [countP_split g b, e]; omega
/-- the second of a pair -/
def later (L x n : Nat) : Bool := decide (flip L x n < n)
theorem later_flip (L x n : Nat) : later L x (flip L x n) = !later L x n := by
  unfold later
  rw [flip_flip]
  have := flip_ne L x n
  rw [Bool.eq_iff_iff, Bool.not_eq_true', decide_eq_true_eq, decide_eq_false_iff_not]
  omega
theorem fresh_pairs {L x : Nat} (h1 : 1 ≤ x) (h2 : x ≤ L) (M : Nat → Bool) (key : Nat → Nat) (hk : ∀ a b, a < 2 ^ L → b < 2 ^ L → (key a = key b ↔ a = b ∨ a = flip L x b)) :
    freshN M key (2 ^ L) = (List.range (2 ^ L)).countP (fun n => (M n || M (flip L x n)) && !later L x n) := by
  have e1 : freshN M key (2 ^ L) = (List.range (2 ^ L)).countP (fun n => M n && !(later L x n && M (flip L x n))) := by
    unfold freshN
    refine count_congr fun n hn => ?_
    have : seenBefore M key n (key n) = (later L x n && M (flip L x n)) := by
      rw [Bool.eq_iff_iff]
      simp only [seenBefore, List.any_eq_true, List.mem_range, Bool.and_eq_true, beq_iff_eq, later, decide_eq_true_eq]
      constructor
      · rintro ⟨m, g1, g2, g3⟩
        rcases (hk m n (by omega) hn).1 g3 with e | e
        · omega
        · rw [← e]; exact ⟨g1, g2⟩
      · rintro ⟨g1, g2⟩
        exact ⟨flip L x n, g1, g2, (hk _ n (flip_lt h1 h2 hn) hn).2 (.inr rfl)⟩
    rw [this]
  rw [e1, countP_split _ (later L x)]
  have e2 : (List.range (2 ^ L)).countP (fun n => (M n && !(later L x n && M (flip L x n))) && later L x n) = (List.range (2 ^ L)).countP (fun n => (M (flip L x n) && !M n) && !later L x n) := by
    rw [← count_flip h1 h2 (fun n => (M n && !(later L x n && M (flip L x n))) && later L x n)]
    refine count_congr fun n hn => ?_
    rw [later_flip, flip_flip]
    cases M n <;> cases M (flip L x n) <;> cases later L x n <;> rfl
  rw [e2, countP_split (fun n => (M n || M (flip L x n)) && !later L x n) M]
  have e3 : (List.range (2 ^ L)).countP (fun n => (M n && !(later L x n && M (flip L x n))) && !later L x n) = (List.range (2 ^ L)).countP (fun n => ((M n || M (flip L x n)) && !later L x n) && M n) :=
    count_congr fun n hn => by cases M n <;> cases M (flip L x n) <;> cases later L x n <;> rfl
  have e4 : (List.range (2 ^ L)).countP (fun n => (M (flip L x n) && !M n) && !later L x n) = (List.range (2 ^ L)).countP (fun n => ((M n || M (flip L x n)) && !later L x n) && !M n) :=
    count_congr fun n hn => by cases M n <;> cases M (flip L x n) <;> cases later L x n <;> rfl
  rw [e3, e4]; omega
/-- all letters but x -/
def others (L : Nat) (x : Nat) : List Int := chosen (fun k => decide (k ≠ x)) L
theorem others_mem {L x i : Nat} (hi1 : 1 ≤ i) (hi2 : i ≤ L) (h : i ≠ x) : (i : Int) ∈ others L x := by
  unfold others chosen
  rw [List.mem_map]
  refine ⟨i - 1, List.mem_filter.2 ⟨List.mem_range.2 (by omega), ?_⟩, by omega⟩
  rw [decide_eq_true_eq]; omega
theorem others_key {L x : Nat} (h1 : 1 ≤ x) (h2 : x ≤ L) (a b : Nat) (ha : a < 2 ^ L) (hb : b < 2 ^ L) : onKey L (others L x) a = onKey L (others L x) b ↔ a = b ∨ a = flip L x b := by
  constructor
  · intro h
    have g1 := numGo_inj _ _ (by simp [projN]) h
    have g2 : ((others L x).map fun y => bitN a (L - y.toNat)) = ((others L x).map fun y => bitN b (L - y.toNat)) := g1
    have g3 : ∀ i, i < L → i ≠ L - x → bitN a i = bitN b i := by
      intro i hi hne
      have := List.map_inj_left.1 g2 ((L - i : Nat) : Int) (others_mem (by omega) (by omega) (by omega))
      simpa [show L - (L - i) = i by omega] using this
    by_cases hx : bitN a (L - x) = bitN b (L - x)
    · left
      refine bitN_ext ha hb fun i hi => ?_
      by_cases hne : i = L - x
      · rw [hne]; exact hx
      · exact g3 i hi hne
    · right
      refine bitN_ext ha (flip_lt h1 h2 hb) fun i hi => ?_
      rw [bit_flip]
      by_cases hne : i = L - x
      · rw [hne, decide_eq_true rfl]
        cases h3 : bitN a (L - x) <;> cases h4 : bitN b (L - x) <;> rw [h3, h4] at hx <;> simp_all
      · rw [g3 i hi hne, decide_eq_false (fun h => hne h.symm)]; cases bitN b i <;> rfl
  · rintro (rfl | rfl)
    · rfl
    · unfold onKey projN
      congr 1
      refine List.map_congr_left fun y hy => ?_
      rw [bit_flip]
      obtain ⟨i, hi, rfl, ht⟩ := chosen_mem hy
      rw [decide_eq_true_eq] at ht
      rw [Int.toNat_natCast, decide_eq_false (by omega)]
      cases bitN b (L - (i + 1)) <;> rfl
end Go.Proofs.Ytcpbgjnijhcpkaa

namespace Go.Proofs.Ytcpbgjnijhcpkaa
open Go.RowKit
set_option linter.unusedVariables false
set_option maxRecDepth 100000

def resolveN (a b : List Int) (l : Int) : List Int × Bool := if clash a b l then joinAll l (outOfL l a) b else ([], false)
theorem outOfL_snoc (l : Int) (a : List Int) (x : Int) : outOfL l (a ++ [x]) = outOfL l a ++ (if absI x = l then [] else [x]) := by
  rw [outOfL, outOfL, List.filter_append]
  by_cases h : absI x = l <;> simp [h]
theorem joinAll_skip {l x : Int} {S r : List Int} (h : absI x = l) : joinAll l S (x :: r) = joinAll l S r := by rw [joinAll, if_pos h]
theorem joinAll_bad {l x : Int} {S r : List Int} (h : absI x ≠ l) (hj : (joinN S x).2 = false) : joinAll l S (x :: r) = ([], false) := by rw [joinAll, if_neg h, hj]; rfl
theorem joinAll_next {l x : Int} {S r : List Int} (h : absI x ≠ l) (hj : (joinN S x).2 = true) : joinAll l S (x :: r) = joinAll l (joinN S x).1 r := by rw [joinAll, if_neg h, hj]; rfl
set_option maxHeartbeats 2000000 in
set_option maxRecDepth 100000 in
theorem l05Resolve_any (w : World) {l' h' l'' h'' : Nat} (va vb : Value) (a b : List Int) (l : Int) (ha : Ints w l' h' va a) (hha : h' ≤ w.heap.size) (hb : Ints w l'' h'' vb b) (hhb : h'' ≤ w.heap.size) (hra : ∀ x ∈ a, -10 ≤ x ∧ x ≤ 10) (hrb : ∀ x ∈ b, -10 ≤ x ∧ x ≤ 10) (hla : a.length ≤ 100) (hlb : b.length ≤ 100) (hl1 : 1 ≤ l) (hl2 : l ≤ 10) :
    Calls Try.prog 101 #[va, vb, .int .i64 l] w fun e w' => ∃ u, e = .returned (.tuple #[u, .bool (resolveN a b l).2]) ∧ OwnI w' w.heap.size w'.heap.size u (resolveN a b l).1 ∧ Below w.heap.size w w' := by
  have HA := Lib.hid ha
  have HB := Lib.hid hb
  obtain ⟨aa, ac, rfl, ac1, ac2, ad⟩ := ha.out
  obtain ⟨ba, bc, rfl, bc1, bc2, bd⟩ := hb.out
  have HRA := Lib.hid hra
  have HRB := Lib.hid hrb
  have AC : Hid (∀ (wx : World) (j : Nat), Below w.heap.size w wx → j < a.length → ∃ b o, aa = some ⟨b, o, none⟩ ∧ wx.cell? ⟨b, o + j, none⟩ = some (.int .i64 (a.getD j 0))) := fun wx j hbx hj => by
    rcases ad with rfl | ⟨g, o, e, r1, r2, r3, hc⟩
    · simp at hj
    · exact ⟨g, o, e, by rw [hbx.cell (p := ⟨g, o + j, none⟩) (show g < w.heap.size by omega)]; exact hc j hj⟩
  have BC : Hid (∀ (wx : World) (j : Nat), Below w.heap.size w wx → j < b.length → ∃ g o, ba = some ⟨g, o, none⟩ ∧ wx.cell? ⟨g, o + j, none⟩ = some (.int .i64 (b.getD j 0))) := fun wx j hbx hj => by
    rcases bd with rfl | ⟨g, o, e, r1, r2, r3, hc⟩
    · simp at hj
    · exact ⟨g, o, e, by rw [hbx.cell (p := ⟨g, o + j, none⟩) (show g < w.heap.size by omega)]; exact hc j hj⟩
  have h0 := emptySlice w
  have hs0 : (w.alloc (.cells #[] 2)).heap.size = w.heap.size + 1 := by simp
  have H0 : Hid (OwnI (w.alloc (.cells #[] 2)) w.heap.size (w.alloc (.cells #[] 2)).heap.size (.slice (some ⟨w.heap.size, 0, none⟩) 0 0) []) := h0.mono (Nat.le_refl _) (by omega) (Nat.le_refl _)
  have HB0 := Lib.hid (alloc_below w (.cells #[] 2))
  clear ha hb ad bd hra hrb h0 hs0
  go_enter Try.func101, Try.ntmps101
  go_upto_region 1 with fail
  go_cut [33] from 13 to 33 (fun s wx => s = .bool (!clash a b l) ∧ wx = w)
  case first =>
    cases h1 : hasI a l <;> cases h2 : hasI b (-l) <;> cases h3 : hasI a (-l) <;> cases h4 : hasI b l
    all_goals
      have HC : Hid (clash a b l = ((hasI a l && hasI b (-l)) || (hasI a (-l) && hasI b l))) := rfl
      rw [h1, h2, h3, h4] at HC
      go_wp2_with (first | (go_at_call_of 100 (Value.slice aa a.length ac); refine (l00Has_any _ a _ _ HA.out).mono ?_; rintro e w' ⟨rfl, rfl⟩) | (go_at_call_of 100 (Value.slice ba b.length bc); refine (l00Has_any _ b _ _ HB.out).mono ?_; rintro e w' ⟨rfl, rfl⟩))
      go_meet
      exact ⟨by rw [HC.out]; rfl, rfl⟩
  case rest =>
    obtain ⟨rfl, rfl⟩ := hcut
    cases hcl : clash a b l
    · have HE : Hid (resolveN a b l = ([], false)) := by rw [Hid, resolveN, hcl]; rfl
      clear hcl
      go_wp2
      go_ret2
      exact ⟨_, by rw [HE.out]; rfl, by rw [HE.out]; exact OwnI.nil _ _ _ (Nat.le_refl _), Below.refl _ _⟩
    have HE : Hid (resolveN a b l = joinAll l (outOfL l a) b) := by rw [Hid, resolveN, hcl]; rfl
    clear hcl
    go_wp2_with fail
    go_loopw [8, 37] (fun ov i wr => ∃ k : Nat, k ≤ a.length ∧ i = .int .i64 k ∧ OwnI wr wc.heap.size wr.heap.size ov (outOfL l (a.take k)) ∧ Below wc.heap.size wc wr) (fun _ i _ => a.length - (intOf i).toNat)
    case atStart => exact ⟨0, Nat.zero_le _, rfl, H0.out, HB0.out⟩
    case round =>
      clear H0 HB0
      obtain ⟨k, hk, rfl, ho, hb⟩ := hrel
      have hs := hb.size
      have HO := Lib.hid ho
      have HBB := Lib.hid hb
      clear ho
      by_cases hlt : k < a.length
      · obtain ⟨g, o, rfl, hck⟩ := AC.out wr k hb hlt
        have hge : a.getD k 0 = a[k] := by simp [List.getD, hlt]
        rw [hge] at hck
        have HT : Hid (outOfL l (a.take (k + 1)) = outOfL l (a.take k) ++ (if absI a[k] = l then [] else [a[k]])) := by rw [Hid, List.take_succ_eq_append_getElem hlt, outOfL_snoc]
        have hxr := HRA.out a[k] (List.getElem_mem hlt)
        obtain ⟨x, hx⟩ : ∃ x, x = a[k] := ⟨_, rfl⟩
        rw [← hx] at hck HT hxr
        have hx1 := hxr.1
        have hx2 := hxr.2
        have HLN : Hid ((outOfL l (a.take k)).length + 1 ≤ 1099511627776) := by
          have h1 : (outOfL l (a.take k)).length ≤ (a.take k).length := List.length_filter_le _ _
          rw [List.length_take] at h1
          rw [Hid]; omega
        have HLX := Lib.hid (l05Letter_any x (by omega) (by omega) wr)
        obtain ⟨ax, hax⟩ : ∃ z, z = absI x := ⟨_, rfl⟩
        rw [← hax] at HLX HT
        clear hge hx hxr hax hb
        by_cases hal : ax = l
        · have hne : (ax != l) = false := by simpa using hal
          rw [if_pos hal, List.append_nil] at HT
          clear hal
          go_wp2_with fail
          refine HLX.out.mono ?_
          rintro e w' ⟨rfl, rfl⟩
          go_wp2
          go_roundw
          case rel => (repeat apply Exists.intro); exact ⟨⟨k + 1, by omega, by go_num, by rw [HT.out]; exact HO.out, HBB.out⟩, rfl⟩
          case measure => simp [intOf]; omega
        · have hne : (ax != l) = true := by simpa using hal
          rw [if_neg hal] at HT
          clear hal
          go_wp2_with fail
          refine HLX.out.mono ?_
          rintro e w' ⟨rfl, rfl⟩
          go_wp2_with (at_builtin; refine wpList_app1 rfl _ _ rfl _ (outOfL l (a.take k)) rfl x _ HO.out rfl (by unfold I64; omega) HLN.out hs ?_)
          intro v2 w3 ho2 hsm hz3 _
          have HO2 : Hid (OwnI w3 wc.heap.size w3.heap.size v2 (outOfL l (a.take (k + 1)))) := by rw [Hid, HT.out]; exact ho2
          have HB2 := Lib.hid (HBB.out.trans (hsm.below (Nat.le_refl _) hs))
          clear ho2
          go_wp2
          go_roundw
          case rel => (repeat apply Exists.intro); exact ⟨⟨k + 1, by omega, by go_num, HO2.out, HB2.out⟩, rfl⟩
          case measure => simp [intOf]; omega
      · obtain rfl : k = a.length := by omega
        rw [List.take_length] at HO
        have HOL : Hid ((outOfL l a).length ≤ a.length) := List.length_filter_le _ _
        have HORG : Hid (∀ y ∈ outOfL l a, -10 ≤ y ∧ y ≤ 10) := fun y hy => HRA.out y (List.mem_filter.1 hy).1
        obtain ⟨A0, hA0⟩ : ∃ A0, A0 = outOfL l a := ⟨_, rfl⟩
        rw [← hA0] at HO HE HOL HORG
        clear hA0 hb
        go_wp2_with fail
        go_loopw [8, 57] (fun ov i wr => ∃ (k : Nat) (S : List Int), k ≤ b.length ∧ i = .int .i64 k ∧ S.length ≤ a.length + k ∧ Hid (∀ y ∈ S, -10 ≤ y ∧ y ≤ 10) ∧ Hid (joinAll l S (b.drop k) = joinAll l A0 b) ∧ OwnI wr wc.heap.size wr.heap.size ov S ∧ Below wc.heap.size wc wr) (fun _ i _ => b.length - (intOf i).toNat)
        case atStart => exact ⟨0, A0, Nat.zero_le _, rfl, HOL.out, HORG, Lib.hid rfl, HO.out, HBB.out⟩
        case round =>
          clear HO HBB HOL HORG
          obtain ⟨k, S, hk, rfl, hSl, HSR, H, ho, hb⟩ := hrel
          have hs := hb.size
          have HO := Lib.hid ho
          have HBB := Lib.hid hb
          clear ho
          by_cases hlt : k < b.length
          · obtain ⟨g, o, rfl, hck⟩ := BC.out wr k hb hlt
            have hge : b.getD k 0 = b[k] := by simp [List.getD, hlt]
            rw [hge] at hck
            have HD : Hid (b.drop k = b[k] :: b.drop (k + 1)) := drop_cons b k hlt
            have hxr := HRB.out b[k] (List.getElem_mem hlt)
            obtain ⟨x, hx⟩ : ∃ x, x = b[k] := ⟨_, rfl⟩
            rw [← hx] at hck HD hxr
            have hx1 := hxr.1
            have hx2 := hxr.2
            have HLX := Lib.hid (l05Letter_any x (by omega) (by omega) wr)
            have HJ := Lib.hid (l05Join_any wr _ S x HO.out hs (by omega) HSR.out hx1 hx2)
            have HJM : Hid (∀ y ∈ (joinN S x).1, -10 ≤ y ∧ y ≤ 10) := fun y hy => by
              rcases joinN_mem hy with rfl | hy
              · exact ⟨hx1, hx2⟩
              · exact HSR.out y hy
            have hjl := joinN_len x S
            have HSK : Hid (absI x = l → joinAll l S (x :: b.drop (k + 1)) = joinAll l S (b.drop (k + 1))) := fun h => joinAll_skip h
            have HBD : Hid (absI x ≠ l → (joinN S x).2 = false → joinAll l S (x :: b.drop (k + 1)) = ([], false)) := fun h1 h2 => joinAll_bad h1 h2
            have HNX : Hid (absI x ≠ l → (joinN S x).2 = true → joinAll l S (x :: b.drop (k + 1)) = joinAll l (joinN S x).1 (b.drop (k + 1))) := fun h1 h2 => joinAll_next h1 h2
            obtain ⟨ax, hax⟩ : ∃ z, z = absI x := ⟨_, rfl⟩
            rw [← hax] at HLX HSK HBD HNX
            obtain ⟨J, hJ⟩ : ∃ J, J = (joinN S x).1 := ⟨_, rfl⟩
            rw [← hJ] at HJ HJM hjl HNX
            obtain ⟨t, ht⟩ : ∃ t, t = (joinN S x).2 := ⟨_, rfl⟩
            rw [← ht] at HJ HBD HNX
            clear hge hx hxr hax hb hJ ht
            by_cases hal : ax = l
            · have hne : (ax == l) = true := by simpa using hal
              have HN : Hid (joinAll l S (b.drop (k + 1)) = joinAll l A0 b) := by rw [Hid, ← H.out, HD.out]; exact (HSK.out hal).symm
              clear hal
              go_wp2_with fail
              refine HLX.out.mono ?_
              rintro e w' ⟨rfl, rfl⟩
              go_wp2
              go_roundw
              case rel => (repeat apply Exists.intro); exact ⟨⟨k + 1, S, by omega, by go_num, by omega, HSR, HN, HO.out, HBB.out⟩, rfl⟩
              case measure => simp [intOf]; omega
            · have hne : (ax == l) = false := by simpa using hal
              cases t
              · have HN : Hid (resolveN a b l = ([], false)) := by rw [Hid, HE.out, ← H.out, HD.out]; exact HBD.out hal rfl
                clear hal
                go_wp2_with fail
                refine HLX.out.mono ?_
                rintro e w' ⟨rfl, rfl⟩
                go_wp2_with fail
                refine HJ.out.mono ?_
                rintro e w2 ⟨u, rfl, hou, hb2⟩
                have HB2 := Lib.hid (HBB.out.trans (hb2.mono hs))
                clear hou hb2
                go_wp2
                go_ret2
                exact ⟨_, by rw [HN.out]; rfl, by rw [HN.out]; exact OwnI.nil _ _ _ (Nat.le_refl _), HB2.out⟩
              · have HN : Hid (joinAll l J (b.drop (k + 1)) = joinAll l A0 b) := by rw [Hid, ← H.out, HD.out]; exact (HNX.out hal rfl).symm
                clear hal
                go_wp2_with fail
                refine HLX.out.mono ?_
                rintro e w' ⟨rfl, rfl⟩
                go_wp2_with fail
                refine HJ.out.mono ?_
                rintro e w2 ⟨u, rfl, hou, hb2⟩
                have HB2 := Lib.hid (HBB.out.trans (hb2.mono hs))
                have HO2 := Lib.hid hou
                clear hou hb2
                go_wp2
                go_roundw
                case rel => (repeat apply Exists.intro); exact ⟨⟨k + 1, J, by omega, by go_num, by omega, HJM, HN, HO2.out, HB2.out⟩, rfl⟩
                case measure => simp [intOf]; omega
          · obtain rfl : k = b.length := by omega
            have HN : Hid (resolveN a b l = (S, true)) := by rw [Hid, HE.out, ← H.out, drop_len _ _ (Nat.le_refl _)]; rfl
            clear hb
            go_wp2
            go_ret2
            exact ⟨_, by rw [HN.out]; rfl, by rw [HN.out]; exact HO.out, HBB.out⟩
end Go.Proofs.Ytcpbgjnijhcpkaa

namespace Go.Proofs.Ytcpbgjnijhcpkaa
open Go.RowKit
set_option linter.unusedVariables false
set_option maxRecDepth 100000

def resS (l : Int) (a b : List Int) : List Int := insUp ltL (resD l a b).length (resD l a b)
theorem resolve_same {L l : Int} {a b : List Int} (ha : isClause L a = true) (hb : isClause L b = true) (hc : clash a b l = true) : resolveN a b l = if isClause L (resS l a b) then (resS l a b, true) else ([], false) := by
  rw [resolveN, if_pos hc]; exact resolve_eq ha hb
theorem dedup_take {l x : Int} {S r : List Int} (h : absI x ≠ l) (hh : hasI S x = false) : dedupGo l S (x :: r) = dedupGo l (S ++ [x]) r := by rw [dedupGo, if_pos ⟨h, hh⟩]
theorem dedup_skip {l x : Int} {S r : List Int} (h : ¬ (absI x ≠ l ∧ hasI S x = false)) : dedupGo l S (x :: r) = dedupGo l S r := by rw [dedupGo, if_neg h]
set_option maxHeartbeats 2000000 in
set_option maxRecDepth 100000 in
theorem resolveI_any (w : World) {l' h' l'' h'' : Nat} (L : Int) (va vb : Value) (a b : List Int) (l : Int) (kL : I64 L) (ha : Ints w l' h' va a) (hha : h' ≤ w.heap.size) (hb : Ints w l'' h'' vb b) (hhb : h'' ≤ w.heap.size) (hra : ∀ x ∈ a, -10 ≤ x ∧ x ≤ 10) (hrb : ∀ x ∈ b, -10 ≤ x ∧ x ≤ 10) (hla : a.length ≤ 100) (hlb : b.length ≤ 100) (hl1 : 1 ≤ l) (hl2 : l ≤ 10) (hD : (resD l a b).length ≤ 18) :
    Calls Try.prog 103 #[.int .i64 L, va, vb, .int .i64 l] w fun e w' => ∃ u, e = .returned (.tuple #[u, .bool (isClause L (resS l a b))]) ∧ OwnI w' w.heap.size w'.heap.size u (resS l a b) ∧ Below w.heap.size w w' := by
  have HC := Lib.hid (copyInts_any va a w ha hha (by omega))
  have HB := Lib.hid hb
  have HRG : Hid (∀ x ∈ a ++ b, -10 ≤ x ∧ x ≤ 10) := fun x hx => by
    rcases List.mem_append.1 hx with h | h
    · exact hra x h
    · exact hrb x h
  have hab : (a ++ b).length ≤ 200 := by rw [List.length_append]; omega
  have HRS : Hid (dedupGo l [] (a ++ b) = resD l a b) := rfl
  have HDL := Lib.hid hD
  have HSS : Hid (insUp ltL (resD l a b).length (resD l a b) = resS l a b) := rfl
  clear ha hb hra hrb hD
  go_enter Try.func103, Try.ntmps103
  go_wp2_with fail
  refine HC.out.mono ?_
  rintro e w1 ⟨u, rfl, ho, hb1⟩
  have hs1 := hb1.size
  have HO1 := Lib.hid ho
  have HB1 := Lib.hid hb1
  have HBV := Lib.hid (HB.out.below hb1 hhb)
  clear ho hb1 HC
  go_wp2_with (at_builtin; refine wpList_appIs rfl _ _ rfl _ a rfl HO1.out _ b rfl HBV.out (by omega) hs1 ?_)
  intro v2 w2 ho2 hsm2 hz2 _
  have HO2 := Lib.hid ho2
  have HB2 := Lib.hid (HB1.out.trans (hsm2.below (Nat.le_refl _) hs1))
  have hs2 := HB2.out.size
  obtain ⟨c, hc⟩ : ∃ c, c = a ++ b := ⟨_, rfl⟩
  rw [← hc] at HO2 hab HRS HRG
  obtain ⟨ca, cc, rfl, cc1, cc2, cd⟩ := HO2.out.rd.out
  have CC : Hid (∀ (wx : World) (j : Nat), Below w2.heap.size w2 wx → j < c.length → ∃ g o, ca = some ⟨g, o, none⟩ ∧ wx.cell? ⟨g, o + j, none⟩ = some (.int .i64 (c.getD j 0))) := fun wx j hbx hj => by
    rcases cd with e | ⟨g, o, e, r1, r2, r3, hcl⟩
    · rw [e] at hj; simp at hj
    · exact ⟨g, o, e, by rw [hbx.cell (p := ⟨g, o + j, none⟩) (show g < w2.heap.size by omega)]; exact hcl j hj⟩
  clear ho2 hsm2 cd hc
  go_wp2_with fail
  go_loopw [10, 18] (fun ov i wr => ∃ (k : Nat) (S : List Int), k ≤ c.length ∧ i = .int .i64 k ∧ S.length ≤ k ∧ Hid (∀ y ∈ S, -10 ≤ y ∧ y ≤ 10) ∧ Hid (dedupGo l S (c.drop k) = resD l a b) ∧ OwnI wr w2.heap.size wr.heap.size ov S ∧ Below w2.heap.size w2 wr) (fun _ i _ => c.length - (intOf i).toNat)
  case atStart => exact ⟨0, [], Nat.zero_le _, rfl, Nat.le_refl _, Lib.hid (by simp), HRS, OwnI.nil _ _ _ (Nat.le_refl _), Below.refl _ _⟩
  case round =>
    obtain ⟨k, S, hk, rfl, hSl, HSR, H, ho, hb⟩ := hrel
    have hs := hb.size
    have HO := Lib.hid ho
    have HBB := Lib.hid hb
    clear ho
    by_cases hlt : k < c.length
    · obtain ⟨g, o, rfl, hck⟩ := CC.out wr k hb hlt
      have hge : c.getD k 0 = c[k] := by simp [List.getD, hlt]
      rw [hge] at hck
      have HD : Hid (c.drop k = c[k] :: c.drop (k + 1)) := drop_cons c k hlt
      have hxr := HRG.out c[k] (List.getElem_mem hlt)
      obtain ⟨x, hx⟩ : ∃ x, x = c[k] := ⟨_, rfl⟩
      rw [← hx] at hck HD hxr
      have hx1 := hxr.1
      have hx2 := hxr.2
      have HLX := Lib.hid (letterOf_any x (by omega) (by omega) wr)
      have HHS := Lib.hid (has_any _ S x wr HO.out.rd)
      have HTK : Hid (absI x ≠ l → hasI S x = false → dedupGo l (S ++ [x]) (c.drop (k + 1)) = resD l a b) := fun h1 h2 => by rw [← H.out, HD.out]; exact (dedup_take h1 h2).symm
      have HSK : Hid (¬ (absI x ≠ l ∧ hasI S x = false) → dedupGo l S (c.drop (k + 1)) = resD l a b) := fun h => by rw [← H.out, HD.out]; exact (dedup_skip h).symm
      obtain ⟨ax, hax⟩ : ∃ z, z = absI x := ⟨_, rfl⟩
      rw [← hax] at HLX HTK HSK
      obtain ⟨t, ht⟩ : ∃ t, t = hasI S x := ⟨_, rfl⟩
      rw [← ht] at HHS HTK HSK
      clear hge hx hxr hax hb ht
      by_cases hal : ax = l
      · have hne : (ax != l) = false := by simpa using hal
        have HN : Hid (dedupGo l S (c.drop (k + 1)) = resD l a b) := HSK.out (fun h => h.1 hal)
        clear hal
        go_wp2_with fail
        refine HLX.out.mono ?_
        rintro e w' ⟨rfl, rfl⟩
        go_wp2
        go_roundw
        case rel => exact ⟨k + 1, S, by omega, by go_num, by omega, HSR, HN, HO.out, HBB.out⟩
        case measure => simp [intOf]; omega
      · have hne : (ax != l) = true := by simpa using hal
        cases t
        · have HN : Hid (dedupGo l (S ++ [x]) (c.drop (k + 1)) = resD l a b) := HTK.out hal rfl
          have HSR2 : Hid (∀ y ∈ S ++ [x], -10 ≤ y ∧ y ≤ 10) := fun y hy => by
            rcases List.mem_append.1 hy with hy | hy
            · exact HSR.out y hy
            · rw [List.mem_singleton] at hy; subst hy; exact ⟨hx1, hx2⟩
          clear hal
          go_wp2_with fail
          refine HLX.out.mono ?_
          rintro e w' ⟨rfl, rfl⟩
          go_wp2_with fail
          refine HHS.out.mono ?_
          rintro e w' ⟨rfl, rfl⟩
          go_wp2_with (at_builtin; refine wpList_app1 rfl _ _ rfl _ S rfl x _ HO.out rfl (by unfold I64; omega) (by omega) hs ?_)
          intro v3 w3 ho3 hsm hz3 _
          have HO3 := Lib.hid ho3
          have HB3 := Lib.hid (HBB.out.trans (hsm.below (Nat.le_refl _) hs))
          clear ho3
          go_wp2
          go_roundw
          case rel => exact ⟨k + 1, S ++ [x], by omega, by go_num, by simp; omega, HSR2, HN, HO3.out, HB3.out⟩
          case measure => simp [intOf]; omega
        · have HN : Hid (dedupGo l S (c.drop (k + 1)) = resD l a b) := HSK.out (fun h => by cases h.2)
          clear hal
          go_wp2_with fail
          refine HLX.out.mono ?_
          rintro e w' ⟨rfl, rfl⟩
          go_wp2_with fail
          refine HHS.out.mono ?_
          rintro e w' ⟨rfl, rfl⟩
          go_wp2
          go_roundw
          case rel => exact ⟨k + 1, S, by omega, by go_num, by omega, HSR, HN, HO.out, HBB.out⟩
          case measure => simp [intOf]; omega
    · obtain rfl : k = c.length := by omega
      have hSD : S = resD l a b := by rw [← H.out, drop_len _ _ (Nat.le_refl _)]; rfl
      have HSD := Lib.hid hSD
      have hS18 : S.length ≤ 18 := by rw [hSD]; exact HDL.out
      clear hSD hb
      have HBY := Lib.hid (byLetter_any _ S wr HO.out.rd (Nat.le_refl _) HSR.out (by omega))
      rw [HSD.out, HSS.out] at HBY
      go_wp2_with fail
      refine HBY.out.mono ?_
      rintro e w4 ⟨u4, rfl, ho4, hb4⟩
      have hs4 := hb4.size
      have HO4 := Lib.hid ho4
      have HB4 := Lib.hid (HB2.out.trans ((HBB.out.trans (hb4.mono hs)).mono hs2))
      have hrl : (resS l a b).length ≤ 18 := by rw [← HSS.out, insUp_len]; exact HDL.out
      have HCL := Lib.hid (implIsClause_any w4 L _ (resS l a b) kL ho4.rd (Nat.le_refl _) (by omega))
      clear ho4 hb4
      go_wp2_with fail
      refine HCL.out.mono ?_
      rintro e w5 ⟨rfl, hb5⟩
      have HO5 := Lib.hid (HO4.out.below hb5 (Nat.le_refl _))
      have hs5 := hb5.size
      have HB5 := Lib.hid (HB4.out.trans (hb5.mono (by omega)))
      clear hb5
      go_wp2
      go_ret2
      exact ⟨_, rfl, HO5.out.mono (by omega) hs5 (Nat.le_refl _), HB5.out⟩
end Go.Proofs.Ytcpbgjnijhcpkaa

namespace Go.Proofs.Ytcpbgjnijhcpkaa
open Go.RowKit
set_option linter.unusedVariables false
set_option maxRecDepth 100000

def checkedF (f : FormD) : FormD × Bool := if validForm f then (f, true) else (⟨0, []⟩, false)
set_option maxHeartbeats 1000000 in
set_option maxRecDepth 100000 in
theorem l05Give_any (w : World) {l h : Nat} (v : Value) (f : FormD) (hv : FormR w l h v f) (hh : h ≤ w.heap.size) :
    Calls Try.prog 102 #[v] w fun e w' => ∃ r, e = .returned (.tuple #[r, .bool (validForm f)]) ∧ (validForm f = true → r = v) ∧ (validForm f = false → r = .agg #[.int .i64 0, .slice none 0 0]) ∧ Below w.heap.size w w' := by
  obtain ⟨u, rfl, hu⟩ := hv.ex
  have kL := hv.rng
  obtain ⟨a0, cap0, V0, e0, _⟩ := hu.out
  subst e0
  obtain ⟨W1, hW1⟩ : ∃ W, W = w.alloc (.cells #[.int .i64 f.letters, .slice a0 f.clauses.length cap0] 26) := ⟨_, rfl⟩
  obtain ⟨W, hW⟩ : ∃ W, W = W1.alloc (.cells #[.int .i64 0, .slice none 0 0] 26) := ⟨_, rfl⟩
  have hs1 : W1.heap.size = w.heap.size + 1 := by rw [hW1]; simp
  have hsW : W.heap.size = w.heap.size + 2 := by rw [hW]; simp [hs1]
  have hB1 : Below w.heap.size w W1 := by rw [hW1]; exact alloc_below _ _
  have hBW : Below w.heap.size w W := by rw [hW]; exact hB1.alloc (by omega) _
  have hbx : TwoC W w.heap.size 26 (.int .i64 f.letters) (.slice a0 f.clauses.length cap0) := by rw [hW]; refine TwoC.alloc ?_ _; rw [hW1]; exact TwoC.new _ _ _ _
  have hbr : TwoC W (w.heap.size + 1) 26 (.int .i64 0) (.slice none 0 0) := by rw [hW, ← hs1]; exact TwoC.new _ _ _ _
  have HU := Lib.hid (hu.below hBW hh)
  have HB := Lib.hid hbx
  have HR := Lib.hid hbr
  clear hbx hu hv hbr hB1
  go_enter Try.func102, Try.ntmps102
  go_wp2_with fail
  rw [← hW1, ← hW]
  clear hW hW1
  refine (l05Is_any W _ _ f HB.out.c0 HB.out.c1 (by omega) kL HU.out (by omega)).mono ?_
  rintro e w2 ⟨rfl, hb2⟩
  have hs2 := hb2.size
  have hbr2 := HR.out.below hb2 HR.out.lt
  have r0 := hbr2.c0
  have r1 := hbr2.c1
  have g0 := hbr2.f0
  have g1 := hbr2.f1
  have hbx2 := HB.out.below hb2 HB.out.lt
  have q0 := hbx2.c0
  have q1 := hbx2.c1
  clear hbr2 hbx2
  cases hval : validForm f
  · go_wp2_with fail
    refine bodyPost_ret (v := .tuple #[.agg #[.int .i64 0, .slice none 0 0], .bool false]) (by simp [results, Try.results102, go_sem, r0, r1]) rfl ⟨_, by rw [hval], (fun h => by rw [hval] at h; cases h), fun _ => rfl, ?_⟩
    exact ((hBW.trans (hb2.mono hBW.size)).setCell (by simp) _).setCell (by simp) _
  · go_wp2_with fail
    refine bodyPost_ret (v := .tuple #[.agg #[.int .i64 f.letters, .slice a0 f.clauses.length cap0], .bool true]) (by simp [results, Try.results102, go_sem, r0, r1]) rfl ⟨_, by rw [hval], fun _ => rfl, (fun h => by rw [hval] at h; cases h), ?_⟩
    exact ((hBW.trans (hb2.mono hBW.size)).setCell (by simp) _).setCell (by simp) _
set_option maxHeartbeats 1000000 in
set_option maxRecDepth 100000 in
theorem checked_any (w : World) {l h : Nat} (v : Value) (f : FormD) (hv : FormR w l h v f) (hh : h ≤ w.heap.size) (hz : SmallII f.clauses) :
    Calls Try.prog 95 #[v] w fun e w' => ∃ r, e = .returned (.tuple #[r, .bool (validForm f)]) ∧ (validForm f = true → r = v) ∧ (validForm f = false → r = .agg #[.int .i64 0, .slice none 0 0]) ∧ Below w.heap.size w w' := by
  obtain ⟨u, rfl, hu⟩ := hv.ex
  have kL := hv.rng
  obtain ⟨a0, cap0, V0, e0, _⟩ := hu.out
  subst e0
  obtain ⟨W1, hW1⟩ : ∃ W, W = w.alloc (.cells #[.int .i64 f.letters, .slice a0 f.clauses.length cap0] 26) := ⟨_, rfl⟩
  obtain ⟨W, hW⟩ : ∃ W, W = W1.alloc (.cells #[.int .i64 0, .slice none 0 0] 26) := ⟨_, rfl⟩
  have hs1 : W1.heap.size = w.heap.size + 1 := by rw [hW1]; simp
  have hsW : W.heap.size = w.heap.size + 2 := by rw [hW]; simp [hs1]
  have hB1 : Below w.heap.size w W1 := by rw [hW1]; exact alloc_below _ _
  have hBW : Below w.heap.size w W := by rw [hW]; exact hB1.alloc (by omega) _
  have hbx : TwoC W w.heap.size 26 (.int .i64 f.letters) (.slice a0 f.clauses.length cap0) := by rw [hW]; refine TwoC.alloc ?_ _; rw [hW1]; exact TwoC.new _ _ _ _
  have hbr : TwoC W (w.heap.size + 1) 26 (.int .i64 0) (.slice none 0 0) := by rw [hW, ← hs1]; exact TwoC.new _ _ _ _
  have HF := Lib.hid (hv.below hBW hh)
  have HB := Lib.hid hbx
  have HR := Lib.hid hbr
  have HZ := Lib.hid hz
  have q0 := hbx.c0
  have q1 := hbx.c1
  clear hu hv hbr hB1 hbx hz
  go_enter Try.func95, Try.ntmps95
  go_wp2_with fail
  rw [← hW1, ← hW]
  clear hW hW1
  go_wp2_with fail
  refine (implValidForm_any W _ _ HF.out (by omega) HZ.out).mono ?_
  rintro e w2 ⟨rfl, hb2⟩
  clear q0 q1
  have hs2 := hb2.size
  have hbr2 := HR.out.below hb2 HR.out.lt
  have r0 := hbr2.c0
  have r1 := hbr2.c1
  have g0 := hbr2.f0
  have g1 := hbr2.f1
  have hbx2 := HB.out.below hb2 HB.out.lt
  have q0 := hbx2.c0
  have q1 := hbx2.c1
  clear hbr2 hbx2
  cases hval : validForm f
  · go_wp2_with fail
    refine bodyPost_ret (v := .tuple #[.agg #[.int .i64 0, .slice none 0 0], .bool false]) (by simp [results, Try.results95, go_sem, r0, r1]) rfl ⟨_, by rw [hval], (fun h => by rw [hval] at h; cases h), fun _ => rfl, ?_⟩
    exact ((hBW.trans (hb2.mono hBW.size)).setCell (by simp) _).setCell (by simp) _
  · go_wp2_with fail
    refine bodyPost_ret (v := .tuple #[.agg #[.int .i64 f.letters, .slice a0 f.clauses.length cap0], .bool true]) (by simp [results, Try.results95, go_sem, r0, r1]) rfl ⟨_, by rw [hval], fun _ => rfl, (fun h => by rw [hval] at h; cases h), ?_⟩
    exact ((hBW.trans (hb2.mono hBW.size)).setCell (by simp) _).setCell (by simp) _
end Go.Proofs.Ytcpbgjnijhcpkaa

namespace Go.Proofs.Ytcpbgjnijhcpkaa
open Go.RowKit
set_option linter.unusedVariables false
set_option maxRecDepth 100000

def leaveKeep (x : Int) (cs : List (List Int)) (n : Nat) : List (List Int) := (cs.take n).filter fun c => !hasI c x && !hasI c (-x)
def leavePair (x : Int) (a b : List Int) : List (List Int) := if hasI b (-x) && (resolveN a b x).2 then [(resolveN a b x).1] else []
def leaveRow (x : Int) (a : List Int) (cs : List (List Int)) (m : Nat) : List (List Int) := (cs.take m).flatMap (leavePair x a)
def leaveRows (x : Int) (cs : List (List Int)) (n : Nat) : List (List Int) := (cs.take n).flatMap fun a => if hasI a x then leaveRow x a cs cs.length else []
def leaveAll (x : Int) (cs : List (List Int)) : List (List Int) := leaveKeep x cs cs.length ++ leaveRows x cs cs.length
def leaveF (f : FormD) (x : Int) : FormD × Bool := if validForm f && inB 1 f.letters x then checkedF ⟨f.letters, leaveAll x f.clauses⟩ else (⟨0, []⟩, false)
theorem leave_no {f : FormD} {x : Int} (h : (validForm f && inB 1 f.letters x) = false) : leaveF f x = (⟨0, []⟩, false) := by rw [leaveF, h]; rfl
theorem leave_yes {f : FormD} {x : Int} (h : (validForm f && inB 1 f.letters x) = true) : leaveF f x = checkedF ⟨f.letters, leaveAll x f.clauses⟩ := by rw [leaveF, h]; rfl
section
variable {x : Int} {cs : List (List Int)} {a : List Int} {n : Nat}
theorem keep_no (hn : n < cs.length) (h : (!hasI cs[n] x && !hasI cs[n] (-x)) = false) : leaveKeep x cs (n + 1) = leaveKeep x cs n := by
  rw [leaveKeep, List.take_succ_eq_append_getElem hn, List.filter_append]; simp only [List.filter_cons, h, List.filter_nil]; simp [leaveKeep]
theorem keep_yes (hn : n < cs.length) (h : (!hasI cs[n] x && !hasI cs[n] (-x)) = true) : leaveKeep x cs (n + 1) = leaveKeep x cs n ++ [cs[n]] := by
  rw [leaveKeep, List.take_succ_eq_append_getElem hn, List.filter_append]; simp only [List.filter_cons, h, List.filter_nil]; simp [leaveKeep]
theorem row_succ (hn : n < cs.length) : leaveRow x a cs (n + 1) = leaveRow x a cs n ++ leavePair x a cs[n] := by
  rw [leaveRow, List.take_succ_eq_append_getElem hn, List.flatMap_append]; simp [leaveRow]
theorem rows_succ (hn : n < cs.length) : leaveRows x cs (n + 1) = leaveRows x cs n ++ (if hasI cs[n] x then leaveRow x cs[n] cs cs.length else []) := by
  rw [leaveRows, List.take_succ_eq_append_getElem hn, List.flatMap_append]; simp [leaveRows]
theorem rows_no (hn : n < cs.length) (h : hasI cs[n] x = false) : leaveRows x cs (n + 1) = leaveRows x cs n := by rw [rows_succ hn, h]; simp
theorem rows_yes (hn : n < cs.length) (h : hasI cs[n] x = true) : leaveRows x cs (n + 1) = leaveRows x cs n ++ leaveRow x cs[n] cs cs.length := by rw [rows_succ hn, h]; rfl
theorem pair_no {b : List Int} (h : hasI b (-x) = false) : leavePair x a b = [] := by rw [leavePair, h]; rfl
theorem pair_none {b : List Int} (h : (resolveN a b x).2 = false) : leavePair x a b = [] := by rw [leavePair, h, Bool.and_false]; rfl
theorem pair_yes {b : List Int} (h : hasI b (-x) = true) (h2 : (resolveN a b x).2 = true) : leavePair x a b = [(resolveN a b x).1] := by rw [leavePair, h, h2]; rfl
end
theorem sum_le {K : Nat} {l : List (List Int)} (h : ∀ c ∈ l, c.length ≤ K) : (l.map List.length).sum ≤ K * l.length := by
  induction l with
  | nil => simp
  | cons a r ih =>
    have h1 := h a (by simp)
    have h2 := ih fun c hc => h c (by simp [hc])
    rw [List.map_cons, List.sum_cons, List.length_cons, Nat.mul_succ]
    omega
/-- rows that are short, and not too many -/
def Few (n : Nat) (l : List (List Int)) : Prop := l.length ≤ n ∧ ∀ c ∈ l, c.length ≤ 20
theorem Few.sum {n : Nat} {l : List (List Int)} (h : Few n l) (hn : n ≤ 10000) : (l.map List.length).sum ≤ 200000 := by
  have h1 := sum_le h.2
  have h2 := h.1
  omega
theorem Few.app {n m : Nat} {l r : List (List Int)} (h : Few n l) (k : Few m r) : Few (n + m) (l ++ r) := by
  refine ⟨by rw [List.length_append]; have := h.1; have := k.1; omega, fun c hc => ?_⟩
  rcases List.mem_append.1 hc with hc | hc
  · exact h.2 c hc
  · exact k.2 c hc
theorem Few.mono {n m : Nat} {l : List (List Int)} (h : Few n l) (hm : n ≤ m) : Few m l := ⟨Nat.le_trans h.1 hm, h.2⟩
theorem Few.small {n : Nat} {l : List (List Int)} (h : Few n l) (hn : n ≤ 10000) : SmallII l := ⟨by have := h.1; omega, by have := h.sum hn; omega⟩
section
variable {L x : Int} {cs : List (List Int)} {a : List Int}
theorem keep_few (n : Nat) (h48 : cs.length ≤ 48) (hc : ∀ c ∈ cs, isClause L c = true) : Few 48 (leaveKeep x cs n) := by
  refine ⟨?_, fun c h => ?_⟩
  · have h1 := List.length_filter_le (fun c => !hasI c x && !hasI c (-x)) (cs.take n)
    rw [List.length_take] at h1
    unfold leaveKeep; omega
  · rw [leaveKeep, List.mem_filter] at h
    have hm := List.mem_of_mem_take h.1
    have := (cons_clause (hc c hm)).len (inB_true (clause_in (hc c hm))).2
    omega
theorem pair_few {b : List Int} (hx : 1 ≤ x) (ha : isClause L a = true) (hb : isClause L b = true) (hxa : hasI a x = true) : Few 1 (leavePair x a b) := by
  rw [leavePair]
  split
  · rename_i h
    rw [Bool.and_eq_true] at h
    refine ⟨by simp, fun c hc => ?_⟩
    rw [List.mem_singleton] at hc
    subst hc
    have hcl : clash a b x = true := by rw [clash, hxa, h.1]; rfl
    have h18 := clash_len hx ha hb hcl
    have h2 := h.2
    rw [resolveN, hcl, if_pos rfl, resolve_eq ha hb] at h2 ⊢
    split
    · rw [insUp_len]; omega
    · simp
  · exact ⟨by simp, by simp⟩
theorem row_few (hx : 1 ≤ x) (ha : isClause L a = true) (hc : ∀ c ∈ cs, isClause L c = true) (hxa : hasI a x = true) (n : Nat) (hn : n ≤ cs.length) : Few n (leaveRow x a cs n) := by
  induction n with
  | zero => exact ⟨by simp [leaveRow], by simp [leaveRow]⟩
  | succ n ih =>
    rw [row_succ (by omega)]
    exact (ih (by omega)).app (pair_few hx ha (hc _ (List.getElem_mem _)) hxa)
theorem rows_few (hx : 1 ≤ x) (h48 : cs.length ≤ 48) (hc : ∀ c ∈ cs, isClause L c = true) (n : Nat) (hn : n ≤ cs.length) : Few (48 * n) (leaveRows x cs n) := by
  induction n with
  | zero => exact ⟨by simp [leaveRows], by simp [leaveRows]⟩
  | succ n ih =>
    rw [rows_succ (by omega)]
    refine ((ih (by omega)).app (m := 48) ?_).mono (by omega)
    split
    · rename_i h
      exact (row_few hx (hc _ (List.getElem_mem _)) hc h _ (Nat.le_refl _)).mono h48
    · exact ⟨by simp, by simp⟩
/-- all that can lie there on the way -/
theorem way_few (hx : 1 ≤ x) (h48 : cs.length ≤ 48) (hc : ∀ c ∈ cs, isClause L c = true) (ha : isClause L a = true) (hxa : hasI a x = true) {n m : Nat} (hn : n ≤ cs.length) (hm : m ≤ cs.length) : Few 2400 (leaveKeep x cs cs.length ++ leaveRows x cs n ++ leaveRow x a cs m) := by
  refine (((keep_few cs.length h48 hc).app (rows_few hx h48 hc n hn)).app (row_few hx ha hc hxa m hm)).mono ?_
  omega
theorem all_few (hx : 1 ≤ x) (h48 : cs.length ≤ 48) (hc : ∀ c ∈ cs, isClause L c = true) : Few 2400 (leaveAll x cs) :=
  ((keep_few cs.length h48 hc).app (rows_few hx h48 hc cs.length (Nat.le_refl _))).mono (by omega)
/-- the two ways agree -/
theorem res_clash {b : List Int} (hxa : hasI a x = true) (hb : hasI b (-x) = true) : clash a b x = true := by rw [clash, hxa, hb]; rfl
theorem resS_eq {b : List Int} (ha : isClause L a = true) (hb : isClause L b = true) (hcl : clash a b x = true) : resolveN a b x = if isClause L (resS x a b) then (resS x a b, true) else ([], false) := by
  rw [resolveN, hcl, if_pos rfl, resolve_eq ha hb]; rfl
end
/-! ### How far the two loops have come -/
def leaveMid (x : Int) (cs : List (List Int)) (i : Nat) : List (List Int) := leaveKeep x cs cs.length ++ leaveRows x cs i
def leaveWay (x : Int) (cs : List (List Int)) (i : Nat) (a : List Int) (k : Nat) : List (List Int) := leaveMid x cs i ++ (if hasI a x then leaveRow x a cs k else [])
section
variable {L x : Int} {cs : List (List Int)} {a R : List Int} {i k : Nat}
theorem leaveMid_zero : leaveMid x cs 0 = leaveKeep x cs cs.length := by simp [leaveMid, leaveRows]
theorem leaveMid_all : leaveMid x cs cs.length = leaveAll x cs := rfl
theorem leaveWay_zero : leaveWay x cs i a 0 = leaveMid x cs i := by simp [leaveWay, leaveRow]
theorem mid_no (hi : i < cs.length) (h : hasI cs[i] x = false) : leaveMid x cs (i + 1) = leaveMid x cs i := by rw [leaveMid, rows_no hi h]; rfl
theorem leaveWay_end (hi : i < cs.length) : leaveWay x cs i cs[i] cs.length = leaveMid x cs (i + 1) := by rw [leaveWay, leaveMid, leaveMid, rows_succ hi, List.append_assoc]
theorem leaveWay_noA (h : hasI a x = false) : leaveWay x cs i a (k + 1) = leaveWay x cs i a k := by rw [leaveWay, leaveWay, h]; rfl
theorem leaveWay_noB (hk : k < cs.length) (h : hasI cs[k] (-x) = false) : leaveWay x cs i a (k + 1) = leaveWay x cs i a k := by
  rw [leaveWay, leaveWay, row_succ hk, pair_no h, List.append_nil]
theorem leaveWay_none (hk : k < cs.length) (h : (resolveN a cs[k] x).2 = false) : leaveWay x cs i a (k + 1) = leaveWay x cs i a k := by
  rw [leaveWay, leaveWay, row_succ hk, pair_none h, List.append_nil]
theorem leaveWay_put (hk : k < cs.length) (ha : hasI a x = true) (hb : hasI cs[k] (-x) = true) (h : resolveN a cs[k] x = (R, true)) : leaveWay x cs i a (k + 1) = leaveWay x cs i a k ++ [R] := by
  rw [leaveWay, leaveWay, row_succ hk, pair_yes hb (by rw [h]), h, ha, if_pos rfl, if_pos rfl, List.append_assoc]
theorem leaveWay_few (hx : 1 ≤ x) (h48 : cs.length ≤ 48) (hc : ∀ c ∈ cs, isClause L c = true) (ha : isClause L a = true) (hi : i ≤ cs.length) (hk : k ≤ cs.length) : Few 2400 (leaveWay x cs i a k) := by
  rw [leaveWay, leaveMid]
  split
  · rename_i h
    exact way_few hx h48 hc ha h hi hk
  · rw [List.append_nil]
    exact ((keep_few cs.length h48 hc).app (rows_few hx h48 hc i hi)).mono (by omega)
end
end Go.Proofs.Ytcpbgjnijhcpkaa

namespace Go.Proofs.Ytcpbgjnijhcpkaa
open Go.RowKit
set_option linter.unusedVariables false
set_option maxRecDepth 100000

theorem len_subset {l1 l2 : List Int} (hd : l1.Pairwise (fun a b => a ≠ b)) (hs : ∀ a ∈ l1, a ∈ l2) : l1.length ≤ l2.length := by
  induction l1 generalizing l2 with
  | nil => exact Nat.zero_le _
  | cons a r ih =>
    rw [List.pairwise_cons] at hd
    have ha := hs a (List.mem_cons_self ..)
    have := ih (l2 := l2.erase a) hd.2 (fun b hb => (List.mem_erase_of_ne (fun e => hd.1 b hb e.symm)).2 (hs b (List.mem_cons_of_mem _ hb)))
    rw [List.length_erase_of_mem ha] at this
    have h2 : 0 < l2.length := List.length_pos_of_mem ha
    simp only [List.length_cons]; omega
theorem part_iff {xs bs : List Int} : isPart xs bs = true ↔ ∀ y ∈ xs, y ∈ bs := by
  unfold isPart
  rw [List.all_eq_true]
  exact ⟨fun h y hy => (hasI_iff _ _).1 (h y hy), fun h y hy => (hasI_iff _ _).2 (h y hy)⟩
theorem clause_nodup {L : Int} {c : List Int} (h : isClause L c = true) : c.Pairwise (fun a b => a ≠ b) := (clause_ris h).imp fun hab e => by rw [e] at hab; omega
theorem thin_same {L : Int} {bs : List Bool} {cs : List (List Int)} (hc : ∀ c ∈ cs, isClause L c = true) : formTrue bs (thinTo cs cs.length) = formTrue bs cs := by
  rw [Bool.eq_iff_iff, form_allP, form_allP]
  constructor
  · intro h
    have key : ∀ m i, (hi : i < cs.length) → cs[i].length * (cs.length + 1) + i = m → clauseTrue bs cs[i] = true := by
      intro m
      induction m using Nat.strongRecOn with
      | _ m ih =>
        intro i hi hm
        cases ht : thinAny cs i cs.length with
        | false =>
          refine h _ ?_
          unfold thinTo
          rw [List.mem_map]
          exact ⟨i, List.mem_filter.2 ⟨List.mem_range.2 hi, by rw [ht]; rfl⟩, getD_get hi⟩
        | true =>
          unfold thinAny at ht
          rw [List.any_eq_true] at ht
          obtain ⟨k, hk, hkt⟩ := ht
          rw [List.mem_range] at hk
          by_cases hki : k = i
          · rw [told_same hki] at hkt; cases hkt
          rw [told_apart hi hk hki, Bool.and_eq_true, Bool.or_eq_true, decide_eq_true_eq, decide_eq_true_eq] at hkt
          have hp := part_iff.1 hkt.1
          have hle := len_subset (clause_nodup (hc _ (List.getElem_mem hk))) hp
          have hlt : cs[k].length * (cs.length + 1) + k < m := by
            rw [← hm]
            rcases Nat.lt_or_ge cs[k].length cs[i].length with h1 | h1
            · have : cs[k].length * (cs.length + 1) + (cs.length + 1) ≤ cs[i].length * (cs.length + 1) := by
                rw [← Nat.succ_mul]; exact Nat.mul_le_mul_right _ h1
              omega
            · have e : cs[k].length = cs[i].length := by omega
              rw [e]; omega
          have := ih _ hlt k hk rfl
          rw [clause_any] at this ⊢
          obtain ⟨y, hy, hyt⟩ := this
          exact ⟨y, hp y hy, hyt⟩
    intro c hcm
    obtain ⟨i, hi, rfl⟩ := List.mem_iff_getElem.1 hcm
    exact key _ i hi rfl
  · intro h c hcm
    unfold thinTo at hcm
    rw [List.mem_map] at hcm
    obtain ⟨i, hi, rfl⟩ := hcm
    have hi' := List.mem_range.1 (List.mem_filter.1 hi).1
    rw [getD_get hi']
    exact h _ (List.getElem_mem hi')
/-! ### a form without a letter -/
theorem clause_litN {L n : Nat} {c : List Int} : clauseTrue (valuesN L n) c = true ↔ ∃ y ∈ c, litN L n y = true := clause_any
theorem no_both {L : Int} {c : List Int} {y z : Int} (h : isClause L c = true) (hy : y ∈ c) (hz : z ∈ c) (hne : y ≠ z) : absI y ≠ absI z :=
  pairwise_mem (fun _ _ h => Ne.symm h) (clause_ris h).dist y hy z hz hne
theorem absI_cases {y : Int} {x : Nat} (h : absI y = (x : Int)) : y = (x : Int) ∨ y = -(x : Int) := by unfold absI at h; split at h <;> omega
theorem absI_of_nat (x : Nat) : absI (x : Int) = (x : Int) := by unfold absI; rw [if_neg (by omega)]
theorem absI_of_neg (x : Nat) : absI (-(x : Int)) = (x : Int) := by unfold absI; split <;> omega
theorem litN_same {L x n : Nat} {y : Int} (hx1 : 1 ≤ x) (hx2 : x ≤ L) (h1 : 0 < absI y ∧ absI y ≤ (L : Int)) (h : absI y ≠ (x : Int)) : litN L (flip L x n) y = litN L n y := by
  rw [litN_flip hx1 hx2 h1.1 h1.2, decide_eq_false h]; cases litN L n y <;> rfl
theorem res_mem {L : Int} {a b : List Int} {x : Int} (ha : isClause L a = true) (hb : isClause L b = true) (y : Int) : y ∈ resS x a b ↔ (y ∈ a ∨ y ∈ b) ∧ absI y ≠ x := by
  have hp := insUp_perm ltL (resD x a b) (resD x a b).length (Nat.le_refl _)
  have e : y ∈ resS x a b ↔ y ∈ resD x a b := hp.mem_iff
  rw [e, resD_eq (clause_ris ha).dist (clause_ris hb).dist, List.mem_append, outOfL, List.mem_filter, List.mem_filter, Bool.and_eq_true, decide_eq_true_eq, Bool.not_eq_true']
  constructor
  · rintro (⟨h1, h2⟩ | ⟨h1, h2, _⟩)
    · exact ⟨.inl h1, h2⟩
    · exact ⟨.inr h1, h2⟩
  · rintro ⟨h1, h2⟩
    by_cases hya : y ∈ a
    · exact .inl ⟨hya, h2⟩
    · rcases h1 with h1 | h1
      · exact absurd h1 hya
      · refine .inr ⟨h1, h2, ?_⟩
        rw [hasI_false]
        intro h3
        exact hya (List.mem_filter.1 h3).1
theorem res_none {L : Int} {a b : List Int} {x : Int} (ha : isClause L a = true) (hb : isClause L b = true) (hcl : clash a b x = true) (h : (resolveN a b x).2 = false) : ∃ y ∈ b, absI y ≠ x ∧ -y ∈ a := by
  have hra := clause_ris ha
  have hro : Ris (outOfL x a) := List.Pairwise.sublist List.filter_sublist hra
  by_cases hc : Conf x (outOfL x a) b
  · obtain ⟨y, h1, h2, h3⟩ := hc
    exact ⟨y, h1, h2, (List.mem_filter.1 h3).1⟩
  · exfalso
    rw [resolveN, if_pos hcl, joinAll_no x b _ hro (clause_ris hb).dist hc] at h
    cases h
theorem leave_mem {x : Int} {cs : List (List Int)} {d : List Int} : d ∈ leaveAll x cs ↔ (d ∈ cs ∧ x ∉ d ∧ -x ∉ d) ∨ ∃ a ∈ cs, ∃ b ∈ cs, x ∈ a ∧ -x ∈ b ∧ (resolveN a b x).2 = true ∧ d = (resolveN a b x).1 := by
  unfold leaveAll leaveKeep leaveRows
  rw [List.mem_append, List.take_length, List.mem_filter, Bool.and_eq_true, Bool.not_eq_true', Bool.not_eq_true', hasI_false, hasI_false, List.mem_flatMap]
  refine or_congr Iff.rfl ⟨?_, ?_⟩
  · rintro ⟨a, ha, hd⟩
    split at hd
    · rename_i hxa
      unfold leaveRow at hd
      rw [List.take_length, List.mem_flatMap] at hd
      obtain ⟨b, hb, hd⟩ := hd
      unfold leavePair at hd
      split at hd
      · rename_i h
        rw [Bool.and_eq_true] at h
        exact ⟨a, ha, b, hb, (hasI_iff _ _).1 hxa, (hasI_iff _ _).1 h.1, h.2, List.mem_singleton.1 hd⟩
      · simp at hd
    · simp at hd
  · rintro ⟨a, ha, b, hb, h1, h2, h3, rfl⟩
    refine ⟨a, ha, ?_⟩
    rw [if_pos ((hasI_iff _ _).2 h1)]
    unfold leaveRow
    rw [List.take_length, List.mem_flatMap]
    refine ⟨b, hb, ?_⟩
    rw [pair_yes ((hasI_iff _ _).2 h2) h3]
    exact List.mem_singleton.2 rfl
theorem leave_models {L x n : Nat} {cs : List (List Int)} (hc : ∀ c ∈ cs, isClause (L : Int) c = true) (hx1 : 1 ≤ x) (hx2 : x ≤ L) :
    formTrue (valuesN L n) (leaveAll (x : Int) cs) = (formTrue (valuesN L n) cs || formTrue (valuesN L (flip L x n)) cs) := by
  have hl : ∀ c ∈ cs, ∀ y ∈ c, 0 < absI y ∧ absI y ≤ (L : Int) := fun c h => lits_of_clause rfl (hc c h)
  have hxl : 0 < absI (x : Int) ∧ absI (x : Int) ≤ (L : Int) := by rw [absI_of_nat]; omega
  have hclash : ∀ a b, (x : Int) ∈ a → -(x : Int) ∈ b → clash a b (x : Int) = true := fun a b h1 h2 => res_clash ((hasI_iff _ _).2 h1) ((hasI_iff _ _).2 h2)
  have hres : ∀ a ∈ cs, ∀ b ∈ cs, (x : Int) ∈ a → -(x : Int) ∈ b → (resolveN a b x).2 = true → (resolveN a b x).1 = resS (x : Int) a b := by
    intro a ha b hb h1 h2 h3
    rw [resS_eq (hc a ha) (hc b hb) (hclash a b h1 h2)] at h3 ⊢
    split at h3
    · rename_i h; rw [if_pos h]
    · cases h3
  have hsame : ∀ e, e = n ∨ e = flip L x n → ∀ y, 0 < absI y ∧ absI y ≤ (L : Int) → absI y ≠ (x : Int) → litN L e y = litN L n y := by
    rintro e (rfl | rfl) y h1 h2
    · rfl
    · exact litN_same hx1 hx2 h1 h2
  rw [Bool.eq_iff_iff, Bool.or_eq_true]
  constructor
  · intro h
    rw [form_allP] at h
    -- the two values
    obtain ⟨n0, n1, h0, h1, hl0, hl1, hor⟩ : ∃ n0 n1, (n0 = n ∨ n0 = flip L x n) ∧ (n1 = n ∨ n1 = flip L x n) ∧ litN L n0 (x : Int) = false ∧ litN L n1 (x : Int) = true ∧
        ((formTrue (valuesN L n0) cs = true ∨ formTrue (valuesN L n1) cs = true) → (formTrue (valuesN L n) cs = true ∨ formTrue (valuesN L (flip L x n)) cs = true)) := by
      have hf := litN_flip (n := n) hx1 hx2 hxl.1 hxl.2
      rw [absI_of_nat, decide_eq_true rfl] at hf
      cases hb : litN L n (x : Int) with
      | false => rw [hb] at hf; exact ⟨n, flip L x n, .inl rfl, .inr rfl, hb, hf, id⟩
      | true => rw [hb] at hf; exact ⟨flip L x n, n, .inr rfl, .inl rfl, hf, hb, Or.symm⟩
    apply hor
    cases hm0 : formTrue (valuesN L n0) cs with
    | true => exact .inl rfl
    | false =>
      cases hm1 : formTrue (valuesN L n1) cs with
      | true => exact .inr rfl
      | false =>
        exfalso
        have hfalse : ∀ e, formTrue (valuesN L e) cs = false → ∃ a ∈ cs, ∀ y ∈ a, litN L e y = false := by
          intro e he
          have : ¬ ∀ c ∈ cs, clauseTrue (valuesN L e) c = true := fun hh => by rw [form_allP.2 hh] at he; cases he
          simp only [Classical.not_forall] at this
          obtain ⟨a, ha, hna⟩ := this
          refine ⟨a, ha, fun y hy => ?_⟩
          cases hyv : litN L e y with
          | false => rfl
          | true => exact absurd (clause_litN.2 ⟨y, hy, hyv⟩) hna
        obtain ⟨a, ha, hfa⟩ := hfalse n0 hm0
        obtain ⟨b, hb, hfb⟩ := hfalse n1 hm1
        have hxn0 : litN L n0 (-(x : Int)) = true := by rw [litN_neg hxl.1 hxl.2, hl0]; rfl
        have hxa : (x : Int) ∈ a := by
          apply Classical.byContradiction
          intro hna
          have hnx : -(x : Int) ∉ a := fun hh => by rw [hfa _ hh] at hxn0; cases hxn0
          have := h a (leave_mem.2 (.inl ⟨ha, hna, hnx⟩))
          obtain ⟨y, hy, hyt⟩ := clause_litN.1 this
          have hne : absI y ≠ (x : Int) := fun e => by rcases absI_cases e with rfl | rfl; exact hna hy; exact hnx hy
          have e := hsame n0 h0 y (hl a ha y hy) hne
          rw [hfa y hy] at e; rw [← e] at hyt; cases hyt
        have hxb : -(x : Int) ∈ b := by
          apply Classical.byContradiction
          intro hnx
          have hna : (x : Int) ∉ b := fun hh => by rw [hfb _ hh] at hl1; cases hl1
          have := h b (leave_mem.2 (.inl ⟨hb, hna, hnx⟩))
          obtain ⟨y, hy, hyt⟩ := clause_litN.1 this
          have hne : absI y ≠ (x : Int) := fun e => by rcases absI_cases e with rfl | rfl; exact hna hy; exact hnx hy
          have e := hsame n1 h1 y (hl b hb y hy) hne
          rw [hfb y hy] at e; rw [← e] at hyt; cases hyt
        cases hr : (resolveN a b (x : Int)).2 with
        | true =>
          have := h _ (leave_mem.2 (.inr ⟨a, ha, b, hb, hxa, hxb, hr, rfl⟩))
          rw [hres a ha b hb hxa hxb hr] at this
          obtain ⟨y, hy, hyt⟩ := clause_litN.1 this
          obtain ⟨hy1, hy2⟩ := (res_mem (hc a ha) (hc b hb) y).1 hy
          rcases hy1 with hy1 | hy1
          · have e := hsame n0 h0 y (hl a ha y hy1) hy2
            rw [hfa y hy1] at e; rw [← e] at hyt; cases hyt
          · have e := hsame n1 h1 y (hl b hb y hy1) hy2
            rw [hfb y hy1] at e; rw [← e] at hyt; cases hyt
        | false =>
          obtain ⟨y, hy1, hy2, hy3⟩ := res_none (hc a ha) (hc b hb) (hclash a b hxa hxb) hr
          have g := hl b hb y hy1
          have e0 := hsame n0 h0 y g hy2
          have e1 := hsame n1 h1 y g hy2
          rw [hfb y hy1] at e1
          have g2 := hfa _ hy3
          rw [litN_neg g.1 g.2, e0, ← e1] at g2
          cases g2
  · intro hM
    obtain ⟨e, he, hme⟩ : ∃ e, (e = n ∨ e = flip L x n) ∧ formTrue (valuesN L e) cs = true := by
      rcases hM with hM | hM
      · exact ⟨n, .inl rfl, hM⟩
      · exact ⟨_, .inr rfl, hM⟩
    rw [form_allP] at hme ⊢
    intro d hd
    rcases leave_mem.1 hd with ⟨h1, h2, h3⟩ | ⟨a, ha, b, hb, h1, h2, h3, rfl⟩
    · obtain ⟨y, hy, hyt⟩ := clause_litN.1 (hme d h1)
      have hne : absI y ≠ (x : Int) := fun e => by rcases absI_cases e with rfl | rfl; exact h2 hy; exact h3 hy
      exact clause_litN.2 ⟨y, hy, by rw [← hsame e he y (hl d h1 y hy) hne]; exact hyt⟩
    · rw [hres a ha b hb h1 h2 h3]
      cases hv : litN L e (x : Int) with
      | false =>
        obtain ⟨y, hy, hyt⟩ := clause_litN.1 (hme a ha)
        have hyx : y ≠ (x : Int) := fun q => by rw [q, hv] at hyt; cases hyt
        have hne : absI y ≠ (x : Int) := by have := no_both (hc a ha) hy h1 hyx; rwa [absI_of_nat] at this
        exact clause_litN.2 ⟨y, (res_mem (hc a ha) (hc b hb) y).2 ⟨.inl hy, hne⟩, by rw [← hsame e he y (hl a ha y hy) hne]; exact hyt⟩
      | true =>
        obtain ⟨y, hy, hyt⟩ := clause_litN.1 (hme b hb)
        have hyx : y ≠ -(x : Int) := fun q => by rw [q, litN_neg hxl.1 hxl.2, hv] at hyt; cases hyt
        have hne : absI y ≠ (x : Int) := by have := no_both (hc b hb) hy h2 hyx; rwa [absI_of_neg] at this
        exact clause_litN.2 ⟨y, (res_mem (hc a ha) (hc b hb) y).2 ⟨.inr hy, hne⟩, by rw [← hsame e he y (hl b hb y hy) hne]; exact hyt⟩
theorem leave_count {L x : Nat} {cs : List (List Int)} (hc : ∀ c ∈ cs, isClause (L : Int) c = true) (hx1 : 1 ≤ x) (hx2 : x ≤ L) :
    countN L (leaveAll (x : Int) cs) (2 ^ L) = 2 * freshN (onModels L cs) (onKey L (others L x)) (2 ^ L) := by
  rw [fresh_pairs hx1 hx2 _ _ (others_key hx1 hx2)]
  have e : countN L (leaveAll (x : Int) cs) (2 ^ L) = (List.range (2 ^ L)).countP (fun n => onModels L cs n || onModels L cs (flip L x n)) :=
    count_congr fun n hn => leave_models hc hx1 hx2
  rw [e, count_half (b := fun n => !later L x n) hx1 hx2 (fun n hn => by rw [flip_flip, Bool.or_comm]) (fun n hn => by rw [later_flip])]
end Go.Proofs.Ytcpbgjnijhcpkaa

namespace Go.Proofs.Ytcpbgjnijhcpkaa
open Go.RowKit
set_option linter.unusedVariables false
set_option maxRecDepth 100000

theorem give_mem {g : List Int} {cs : List (List Int)} {d : List Int} : d ∈ giveTo g cs cs.length ↔ ∃ c ∈ cs, giveDone g c = false ∧ d = giveRest g c := by
  unfold giveTo
  rw [List.take_length, List.mem_map]
  constructor
  · rintro ⟨c, hc, rfl⟩
    have := List.mem_filter.1 hc
    exact ⟨c, this.1, by simpa using this.2, rfl⟩
  · rintro ⟨c, hc, h, rfl⟩
    exact ⟨c, List.mem_filter.2 ⟨hc, by rw [h]; rfl⟩, rfl⟩
theorem done_one {y : Int} {c : List Int} : giveDone [y] c = true ↔ y ∈ c := by
  unfold giveDone
  rw [List.any_eq_true]
  constructor
  · rintro ⟨z, hz, h⟩
    have := (hasI_iff _ _).1 h
    rw [List.mem_singleton] at this
    rw [← this]; exact hz
  · intro h; exact ⟨y, h, (hasI_iff _ _).2 (List.mem_singleton.2 rfl)⟩
theorem rest_one {y z : Int} {c : List Int} : z ∈ giveRest [y] c ↔ z ∈ c ∧ z ≠ -y := by
  unfold giveRest
  rw [List.mem_filter, Bool.not_eq_true', hasI_false, List.mem_singleton]
  constructor
  · rintro ⟨h1, h2⟩; exact ⟨h1, by omega⟩
  · rintro ⟨h1, h2⟩; exact ⟨h1, by omega⟩
/-- the literal of letter x -/
def IsLet (x : Nat) (y : Int) : Prop := y = (x : Int) ∨ y = -(x : Int)
theorem IsLet.abs {x : Nat} {y : Int} (h : IsLet x y) : absI y = (x : Int) := by
  rcases h with rfl | rfl
  · exact absI_of_nat x
  · exact absI_of_neg x
theorem give_same {L x n : Nat} {y : Int} {cs : List (List Int)} (hc : ∀ c ∈ cs, isClause (L : Int) c = true) (hx1 : 1 ≤ x) (hx2 : x ≤ L) (hy : IsLet x y) :
    formTrue (valuesN L (flip L x n)) (giveTo [y] cs cs.length) = formTrue (valuesN L n) (giveTo [y] cs cs.length) := by
  have hl : ∀ c ∈ cs, ∀ z ∈ c, 0 < absI z ∧ absI z ≤ (L : Int) := fun c h => lits_of_clause rfl (hc c h)
  have key : ∀ d ∈ giveTo [y] cs cs.length, clauseTrue (valuesN L (flip L x n)) d = clauseTrue (valuesN L n) d := by
    intro d hd
    obtain ⟨c, hcm, hdn, rfl⟩ := give_mem.1 hd
    rw [Bool.eq_iff_iff, clause_litN, clause_litN]
    have : ∀ z ∈ giveRest [y] c, litN L (flip L x n) z = litN L n z := by
      intro z hz
      obtain ⟨hz1, hz2⟩ := rest_one.1 hz
      refine litN_same hx1 hx2 (hl c hcm z hz1) fun e => ?_
      have hzy : z ≠ y := fun q => by rw [q] at hz1; rw [done_one.2 hz1] at hdn; cases hdn
      rcases absI_cases e with h1 | h1 <;> rcases hy with h2 | h2 <;> omega
    constructor
    · rintro ⟨z, hz, ht⟩; exact ⟨z, hz, by rw [← this z hz]; exact ht⟩
    · rintro ⟨z, hz, ht⟩; exact ⟨z, hz, by rw [this z hz]; exact ht⟩
  rw [Bool.eq_iff_iff, form_allP, form_allP]
  constructor
  · intro h d hd; rw [← key d hd]; exact h d hd
  · intro h d hd; rw [key d hd]; exact h d hd
theorem give_with {L x n : Nat} {y : Int} {cs : List (List Int)} (hc : ∀ c ∈ cs, isClause (L : Int) c = true) (hx1 : 1 ≤ x) (hx2 : x ≤ L) (hy : IsLet x y) (ht : litN L n y = true) :
    formTrue (valuesN L n) (giveTo [y] cs cs.length) = formTrue (valuesN L n) cs := by
  have hyl : 0 < absI y ∧ absI y ≤ (L : Int) := by rw [hy.abs]; omega
  rw [Bool.eq_iff_iff, form_allP, form_allP]
  constructor
  · intro h c hcm
    cases hd : giveDone [y] c with
    | true => exact clause_litN.2 ⟨y, done_one.1 hd, ht⟩
    | false =>
      obtain ⟨z, hz, hzt⟩ := clause_litN.1 (h _ (give_mem.2 ⟨c, hcm, hd, rfl⟩))
      exact clause_litN.2 ⟨z, (rest_one.1 hz).1, hzt⟩
  · intro h d hd
    obtain ⟨c, hcm, hdn, rfl⟩ := give_mem.1 hd
    obtain ⟨z, hz, hzt⟩ := clause_litN.1 (h c hcm)
    refine clause_litN.2 ⟨z, rest_one.2 ⟨hz, fun e => ?_⟩, hzt⟩
    rw [e, litN_neg hyl.1 hyl.2, ht] at hzt; cases hzt
/-- the form with one more clause of one literal -/
theorem form_snoc {bs : List Bool} {cs : List (List Int)} {c : List Int} : formTrue bs (cs ++ [c]) = (formTrue bs cs && clauseTrue bs c) := by
  rw [Bool.eq_iff_iff, Bool.and_eq_true, form_allP, form_allP]
  constructor
  · intro h; exact ⟨fun d hd => h d (List.mem_append_left _ hd), h c (List.mem_append_right _ (List.mem_singleton.2 rfl))⟩
  · rintro ⟨h1, h2⟩ d hd
    rcases List.mem_append.1 hd with hd | hd
    · exact h1 d hd
    · rw [List.mem_singleton.1 hd]; exact h2
theorem clause_one {L n : Nat} {y : Int} : clauseTrue (valuesN L n) [y] = litN L n y := by
  rw [Bool.eq_iff_iff, clause_litN]
  constructor
  · rintro ⟨z, hz, h⟩; rw [List.mem_singleton] at hz; rw [← hz]; exact h
  · intro h; exact ⟨y, List.mem_singleton.2 rfl, h⟩
theorem give_count {L x : Nat} {y : Int} {cs : List (List Int)} (hc : ∀ c ∈ cs, isClause (L : Int) c = true) (hx1 : 1 ≤ x) (hx2 : x ≤ L) (hy : IsLet x y) :
    countN L (giveTo [y] cs cs.length) (2 ^ L) = 2 * countN L (cs ++ [[y]]) (2 ^ L) := by
  have hyl : 0 < absI y ∧ absI y ≤ (L : Int) := by rw [hy.abs]; omega
  have e1 := count_half (g := fun n => formTrue (valuesN L n) (giveTo [y] cs cs.length)) (b := fun n => litN L n y) hx1 hx2 (fun n hn => give_same hc hx1 hx2 hy)
    (fun n hn => by rw [litN_flip hx1 hx2 hyl.1 hyl.2, hy.abs, decide_eq_true rfl]; cases litN L n y <;> rfl)
  show (List.range (2 ^ L)).countP _ = 2 * (List.range (2 ^ L)).countP _
  rw [e1]
  congr 1
  refine count_congr fun n hn => ?_
  rw [form_snoc, clause_one]
  cases ht : litN L n y with
  | true => rw [give_with hc hx1 hx2 hy ht]
  | false => rw [Bool.and_false, Bool.and_false]
/-! ### units -/
theorem rest_false {L n : Nat} {kn c : List Int} (hl : ∀ y ∈ c, 0 < absI y ∧ absI y ≤ (L : Int)) (hk : ∀ z ∈ kn, litN L n z = true) {y : Int} (hy : y ∈ c) (hr : y ∉ giveRest kn c) : litN L n y = false := by
  have h1 : hasI kn (-y) = true := by
    cases h : hasI kn (-y) with
    | true => rfl
    | false => exact absurd (List.mem_filter.2 ⟨hy, by rw [h]; rfl⟩) hr
  have h2 := hk _ ((hasI_iff _ _).1 h1)
  rw [litN_neg (hl y hy).1 (hl y hy).2] at h2
  cases h3 : litN L n y with
  | false => rfl
  | true => rw [h3] at h2; cases h2
theorem units_sound {L n : Nat} {cs : List (List Int)} (hc : ∀ c ∈ cs, isClause (L : Int) c = true) (hm : formTrue (valuesN L n) cs = true) :
    ∀ (m : Nat) (kn by_ : List Int), (∀ z ∈ kn, litN L n z = true) → (unitsGo cs m kn by_).wrong < 0 ∧ ∀ z ∈ (unitsGo cs m kn by_).known, litN L n z = true := by
  have hl : ∀ c ∈ cs, ∀ z ∈ c, 0 < absI z ∧ absI z ≤ (L : Int) := fun c h => lits_of_clause rfl (hc c h)
  rw [form_allP] at hm
  intro m
  induction m with
  | zero => intro kn by_ hk; exact ⟨by show (-1 : Int) < 0; decide, hk⟩
  | succ m ih =>
    intro kn by_ hk
    obtain ⟨s1, s2⟩ := scan_spec kn cs cs.length 0 (-1) 0 (by omega) (.inl (by omega))
    rw [unitsGo]
    have hneg : ¬ 0 ≤ (scanU kn cs cs.length 0 (-1) 0).1 := by
      rcases s1 with s1 | ⟨j, hj, s1, s3, s4⟩
      · rw [s1]; decide
      · exfalso
        obtain ⟨y, hy, hyt⟩ := clause_litN.1 (hm _ (List.getElem_mem hj))
        have := rest_false (hl _ (List.getElem_mem hj)) hk hy (by rw [s4]; exact List.not_mem_nil)
        rw [this] at hyt; cases hyt
    rw [if_neg hneg]
    split
    · exact ⟨by show (-1 : Int) < 0; decide, hk⟩
    · rename_i h4
      rcases s2 with ⟨s2, _⟩ | ⟨j, e, hj, hd, hr⟩
      · exact absurd s2 h4
      · refine ih _ _ fun z hz => ?_
        rcases List.mem_append.1 hz with hz | hz
        · exact hk z hz
        · rw [List.mem_singleton.1 hz]
          obtain ⟨y, hy, hyt⟩ := clause_litN.1 (hm _ (List.getElem_mem hj))
          by_cases hyr : y ∈ giveRest kn cs[j]
          · rw [hr, List.mem_singleton] at hyr; rw [← hyr]; exact hyt
          · rw [rest_false (hl _ (List.getElem_mem hj)) hk hy hyr] at hyt; cases hyt
theorem units_pre {cs : List (List Int)} : ∀ (m : Nat) (kn by_ : List Int), kn <+: (unitsGo cs m kn by_).known := by
  intro m
  induction m with
  | zero => intro kn by_; exact List.prefix_refl _
  | succ m ih =>
    intro kn by_
    rw [unitsGo]
    split
    · exact List.prefix_refl _
    · split
      · exact List.prefix_refl _
      · exact (List.prefix_append _ _).trans (ih _ _)
/-! ### pure literals -/
theorem pure_mem {cs : List (List Int)} : ∀ (k : Nat) (x : Int) (y : Int), y ∈ pureFrom cs x k → ∃ i, i < k ∧ (y = x + (i : Nat) ∨ y = -(x + (i : Nat))) ∧ hasAny cs (-y) = false := by
  intro k
  induction k with
  | zero => intro x y h; simp [pureFrom] at h
  | succ k ih =>
    intro x y h
    rw [pureFrom, List.mem_append] at h
    rcases h with h | h
    · refine ⟨0, by omega, ?_⟩
      unfold pureOf at h
      split at h
      · rename_i h1
        rw [Bool.and_eq_true, Bool.not_eq_true'] at h1
        rw [List.mem_singleton] at h
        subst h
        exact ⟨.inl (by omega), h1.2⟩
      · split at h
        · rename_i h1
          rw [Bool.and_eq_true, Bool.not_eq_true'] at h1
          rw [List.mem_singleton] at h
          subst h
          exact ⟨.inr (by omega), by rw [Int.neg_neg]; exact h1.2⟩
        · simp at h
    · obtain ⟨i, hi, h1, h2⟩ := ih (x + 1) y h
      exact ⟨i + 1, by omega, by rcases h1 with h1 | h1 <;> omega, h2⟩
theorem pure_count {L x : Nat} {y : Int} {cs : List (List Int)} (hc : ∀ c ∈ cs, isClause (L : Int) c = true) (hx1 : 1 ≤ x) (hx2 : x ≤ L) (hy : IsLet x y) (hp : hasAny cs (-y) = false) :
    0 < countN L (cs ++ [[y]]) (2 ^ L) ↔ 0 < countN L cs (2 ^ L) := by
  have hl : ∀ c ∈ cs, ∀ z ∈ c, 0 < absI z ∧ absI z ≤ (L : Int) := fun c h => lits_of_clause rfl (hc c h)
  have hyl : 0 < absI y ∧ absI y ≤ (L : Int) := by rw [hy.abs]; omega
  have hno : ∀ c ∈ cs, -y ∉ c := by
    intro c hcm h
    have : hasAny cs (-y) = true := by unfold hasAny; rw [List.any_eq_true]; exact ⟨c, hcm, (hasI_iff _ _).2 h⟩
    rw [this] at hp; cases hp
  rw [countN_pos, countN_pos]
  constructor
  · rintro ⟨n, hn, h⟩
    rw [form_snoc, Bool.and_eq_true] at h
    exact ⟨n, hn, h.1⟩
  · rintro ⟨n, hn, h⟩
    cases ht : litN L n y with
    | true => exact ⟨n, hn, by rw [form_snoc, clause_one, h, ht]; rfl⟩
    | false =>
      refine ⟨flip L x n, flip_lt hx1 hx2 hn, ?_⟩
      have hf : litN L (flip L x n) y = true := by rw [litN_flip hx1 hx2 hyl.1 hyl.2, hy.abs, decide_eq_true rfl, ht]; rfl
      rw [form_snoc, clause_one, hf, Bool.and_true, form_allP]
      rw [form_allP] at h
      intro c hcm
      obtain ⟨z, hz, hzt⟩ := clause_litN.1 (h c hcm)
      refine clause_litN.2 ⟨z, hz, ?_⟩
      rw [litN_same hx1 hx2 (hl c hcm z hz) (fun e => ?_)]; exact hzt
      have hzy : z ≠ y := fun q => by rw [q, ht] at hzt; cases hzt
      have hzn : z ≠ -y := fun q => hno c hcm (by rw [← q]; exact hz)
      rcases absI_cases e with h1 | h1 <;> rcases hy with h2 | h2 <;> omega
/-! ### what FnClauses compares -/
theorem valid_one {L x : Nat} {y : Int} {cs : List (List Int)} (hv : validForm ⟨(L : Int), cs⟩ = true) (hx1 : 1 ≤ x) (hx2 : x ≤ L) (hy : IsLet x y) (h9 : cs.length ≤ 9) : validForm ⟨(L : Int), cs ++ [[y]]⟩ = true := by
  obtain ⟨h1, h2, h3⟩ := validForm_bounds hv
  simp only at h1 h2 h3
  unfold validForm
  simp only
  have hin : inB 1 10 (L : Int) = true := by unfold inB; rw [decide_eq_true h1.1, decide_eq_true h1.2]; rfl
  rw [hin, decide_eq_true (show (cs ++ [[y]]).length ≤ 48 by simp; omega), List.all_append, List.all_eq_true.2 h3]
  have : isClause (L : Int) [y] = true := by
    refine clause_of_ris hin (fun z hz => ?_) (List.pairwise_singleton _ _)
    rw [List.mem_singleton] at hz
    subst hz
    exact isLit_iff.2 (by rcases hy with rfl | rfl <;> omega)
  simp [this]
theorem count_val {L : Nat} {cs : List (List Int)} (hv : validForm ⟨(L : Int), cs⟩ = true) : countModels ⟨(L : Int), cs⟩ = (((countN L cs (2 ^ L) : Nat) : Int), true) := by
  unfold countModels; rw [hv]; rfl
theorem countN_le5 {L : Nat} (h : L ≤ 5) (cs : List (List Int)) : countN L cs (2 ^ L) ≤ 32 := by
  have h1 := countN_le L cs (2 ^ L)
  have h2 : 2 ^ L ≤ 2 ^ 5 := Nat.pow_le_pow_right (by decide) h
  omega
theorem small_few {cs : List (List Int)} {n : Nat} (h1 : cs.length ≤ n) (hn : n ≤ 10) (h2 : ∀ c ∈ cs, c.length ≤ 3) : SmallII cs := by
  have := sum_le h2
  exact ⟨by omega, by omega⟩
structure ThinOk (L : Nat) (cs : List (List Int)) (T : List (List Int)) : Prop where
  eq : thinForm ⟨(L : Int), cs⟩ = (⟨(L : Int), T⟩, true)
  len : T.length ≤ cs.length
  small : SmallII T
  cnt : countModels ⟨(L : Int), T⟩ = countModels ⟨(L : Int), cs⟩
theorem thinOk {L : Nat} {cs : List (List Int)} (hv : validForm ⟨(L : Int), cs⟩ = true) (h9 : cs.length ≤ 9) (h3 : ∀ c ∈ cs, c.length ≤ 3) : ∃ T, ThinOk L cs T := by
  obtain ⟨b1, b2, b3⟩ := validForm_bounds hv
  simp only at b1 b2 b3
  have hsub : ∀ c ∈ thinTo cs cs.length, c ∈ cs := by
    intro c hcm
    unfold thinTo at hcm
    rw [List.mem_map] at hcm
    obtain ⟨i, hi, rfl⟩ := hcm
    have hi' := List.mem_range.1 (List.mem_filter.1 hi).1
    rw [getD_get hi']
    exact List.getElem_mem hi'
  have hlen := thinTo_len cs cs.length
  have hvT : validForm ⟨(L : Int), thinTo cs cs.length⟩ = true := by
    unfold validForm
    simp only
    rw [show inB 1 10 (L : Int) = true by (unfold inB; rw [decide_eq_true b1.1, decide_eq_true b1.2]; rfl), decide_eq_true (show (thinTo cs cs.length).length ≤ 48 by omega), List.all_eq_true.2 (fun c hc => b3 c (hsub c hc))]
    rfl
  refine ⟨thinTo cs cs.length, by unfold thinForm; rw [hv]; rfl, hlen, small_few (n := 9) (by omega) (by omega) (fun c hc => h3 c (hsub c hc)), ?_⟩
  rw [count_val hv, count_val hvT]
  have : countN L (thinTo cs cs.length) (2 ^ L) = countN L cs (2 ^ L) := count_congr fun n _ => thin_same b3
  rw [this]
theorem leaveOk {L x : Nat} {cs : List (List Int)} (hv : validForm ⟨(L : Int), cs⟩ = true) (hx1 : 1 ≤ x) (hx2 : x ≤ L) (h5 : L ≤ 5) :
    (leaveF ⟨(L : Int), cs⟩ (x : Int)).2 = false ∨ ∃ (T : List (List Int)) (s : Nat), leaveF ⟨(L : Int), cs⟩ (x : Int) = (⟨(L : Int), T⟩, true) ∧ SmallII T ∧ s ≤ 32 ∧ countModels ⟨(L : Int), T⟩ = (((2 * s : Nat) : Int), true) ∧ countOn ⟨(L : Int), cs⟩ (others L x) = ((s : Int), true) := by
  obtain ⟨b1, b2, b3⟩ := validForm_bounds hv
  simp only at b1 b2 b3
  have hin : (validForm ⟨(L : Int), cs⟩ && inB 1 (L : Int) (x : Int)) = true := by
    rw [hv]; unfold inB; rw [decide_eq_true (by omega), decide_eq_true (by omega)]; rfl
  rw [leave_yes hin]
  unfold checkedF
  simp only
  split
  · rename_i hvT
    right
    have hon : onGo (L : Int) 0 (others L x) = true := chosen_on _ L L (Nat.le_refl _)
    have hfs : freshN (onModels L cs) (onKey L (others L x)) (2 ^ L) ≤ 32 := by
      have h1 := fresh_le (onModels L cs) (onKey L (others L x)) (2 ^ L)
      have h2 := countN_le5 h5 cs
      exact Nat.le_trans h1 h2
    have hfew := all_few (x := (x : Int)) (cs := cs) (L := (L : Int)) (by omega) b2 b3
    refine ⟨_, _, rfl, ⟨Nat.le_trans hfew.1 (by decide), by have := hfew.sum (by decide); omega⟩, hfs, ?_, countOn_valid hv hon rfl⟩
    rw [count_val hvT, leave_count b3 hx1 hx2]
  · left; rfl
structure GiveOk (L : Nat) (cs : List (List Int)) (y : Int) (T : List (List Int)) (U : List Int) (wr : Bool) (s : Nat) : Prop where
  give : giveForm ⟨(L : Int), cs⟩ [y] = (⟨(L : Int), T⟩, true)
  small : SmallII T
  units : unitsOfF ⟨(L : Int), cs⟩ [y] = (U, wr, true)
  fst : ∃ r, U = y :: r
  cnt : countModels ⟨(L : Int), T⟩ = (((2 * s : Nat) : Int), true)
  both : countModels ⟨(L : Int), cs ++ [[y]]⟩ = ((s : Int), true)
  wrong : wr = true → s = 0
  le : s ≤ 32
theorem giveOk {L x : Nat} {y : Int} {cs : List (List Int)} (hv : validForm ⟨(L : Int), cs⟩ = true) (hx1 : 1 ≤ x) (hx2 : x ≤ L) (h5 : L ≤ 5) (hy : IsLet x y) (h9 : cs.length ≤ 9) (h3 : ∀ c ∈ cs, c.length ≤ 3) : ∃ T U wr s, GiveOk L cs y T U wr s := by
  obtain ⟨b1, b2, b3⟩ := validForm_bounds hv
  simp only at b1 b2 b3
  have hlit : litsGo (L : Int) [] [y] = true := by
    have : isLit (L : Int) y = true := isLit_iff.2 (by rcases hy with rfl | rfl <;> omega)
    simp [litsGo, this]
  have hok : (validForm ⟨(L : Int), cs⟩ && litsGo (L : Int) [] [y]) = true := by rw [hv, hlit]; rfl
  have hrl : ∀ d ∈ giveTo [y] cs cs.length, d.length ≤ 3 ∧ isClause (L : Int) d = true := by
    intro d hd
    obtain ⟨c, hcm, _, rfl⟩ := give_mem.1 hd
    have hl := List.length_filter_le (fun z => !hasI [y] (-z)) c
    refine ⟨Nat.le_trans hl (h3 c hcm), ?_⟩
    exact clause_of_ris (clause_in (b3 c hcm)) (fun z hz => clause_lits (b3 c hcm) z (List.mem_filter.1 hz).1) ((clause_ris (b3 c hcm)).sublist List.filter_sublist)
  have hlen := giveTo_len [y] cs cs.length
  have hvT : validForm ⟨(L : Int), giveTo [y] cs cs.length⟩ = true := by
    unfold validForm
    simp only
    rw [show inB 1 10 (L : Int) = true by (unfold inB; rw [decide_eq_true b1.1, decide_eq_true b1.2]; rfl), decide_eq_true (show (giveTo [y] cs cs.length).length ≤ 48 by omega), List.all_eq_true.2 (fun c hc => (hrl c hc).2)]
    rfl
  refine ⟨giveTo [y] cs cs.length, _, _, countN L (cs ++ [[y]]) (2 ^ L), by unfold giveForm; simp only; rw [hok]; rfl, small_few (n := 9) (by omega) (by omega) (fun c hc => (hrl c hc).1), unitsOf_yes hok, ?_, ?_, count_val (valid_one hv hx1 hx2 hy h9), ?_, countN_le5 h5 _⟩
  · obtain ⟨r, hr⟩ := units_pre (cs := cs) (11 - [y].length) [y] (List.replicate [y].length (-1))
    exact ⟨r, hr.symm⟩
  · rw [count_val hvT, give_count b3 hx1 hx2 hy]
  · intro hw
    rw [decide_eq_true_eq] at hw
    apply Nat.eq_zero_of_not_pos
    intro hpos
    obtain ⟨n, hn, hm⟩ := (countN_pos L (cs ++ [[y]]) (2 ^ L)).1 hpos
    rw [form_snoc, Bool.and_eq_true, clause_one] at hm
    have := (units_sound b3 hm.1 (11 - [y].length) [y] (List.replicate [y].length (-1)) (fun z hz => by rw [List.mem_singleton] at hz; rw [hz]; exact hm.2)).1
    have hw' : 0 ≤ (unitsGo cs (11 - [y].length) [y] (List.replicate [y].length (-1))).wrong := hw
    omega
theorem pureOk {L : Nat} {cs : List (List Int)} (hv : validForm ⟨(L : Int), cs⟩ = true) (h9 : cs.length ≤ 9) (h5 : L ≤ 5) : ∃ P : List Int, pureIn ⟨(L : Int), cs⟩ = (P, true) ∧ P.length ≤ 1048576 ∧
    ∀ y ∈ P, I64 y ∧ ∃ s : Nat, s ≤ 32 ∧ countModels ⟨(L : Int), cs ++ [[y]]⟩ = ((s : Int), true) ∧ (0 < s ↔ 0 < countN L cs (2 ^ L)) := by
  obtain ⟨b1, b2, b3⟩ := validForm_bounds hv
  simp only at b1 b2 b3
  refine ⟨pureFrom cs 1 L, by unfold pureIn; rw [hv]; rfl, ?_, fun y hy => ?_⟩
  · have hl : ∀ (k : Nat) (x : Int), (pureFrom cs x k).length ≤ k := by
      intro k
      induction k with
      | zero => intro x; exact Nat.le_refl _
      | succ k ih =>
        intro x
        rw [pureFrom, List.length_append]
        have h1 : (pureOf cs x).length ≤ 1 := by unfold pureOf; split; exact Nat.le_refl _; split; exact Nat.le_refl _; exact Nat.zero_le _
        have := ih (x + 1)
        omega
    have := hl L 1
    omega
  · obtain ⟨i, hi, h1, h2⟩ := pure_mem _ _ _ hy
    have hlet : IsLet (i + 1) y := by
      rcases h1 with h1 | h1
      · exact .inl (by omega)
      · exact .inr (by omega)
    refine ⟨by rcases hlet with h | h <;> constructor <;> omega, _, countN_le5 h5 _, count_val (valid_one hv (by omega) (by omega) hlet h9), pure_count b3 (by omega) (by omega) hlet h2⟩
end Go.Proofs.Ytcpbgjnijhcpkaa

namespace Go.Proofs.Ytcpbgjnijhcpkaa
open Go.RowKit
set_option linter.unusedVariables false
set_option maxRecDepth 100000

theorem hasI_append (a b : List Int) (x : Int) : hasI (a ++ b) x = (hasI a x || hasI b x) := by
  induction a with
  | nil => simp [hasI]
  | cons y r ih => rw [List.cons_append, hasI, hasI, ih, Bool.or_assoc]
theorem hasI_flat (cs : List (List Int)) (x : Int) : hasI cs.flatten x = hasAny cs x := by
  induction cs with
  | nil => rfl
  | cons a r ih => rw [List.flatten_cons, hasI_append, ih]; rfl
set_option maxHeartbeats 2000000 in
set_option maxRecDepth 100000 in
theorem implPureIn_any (w : World) {l h : Nat} (v : Value) (f : FormD) (hv : FormR w l h v f) (hh : h ≤ w.heap.size) (hz : SmallII f.clauses) :
    Calls Try.prog 48 #[v] w fun e w' => ∃ r, e = .returned (.tuple #[r, .bool (pureIn f).2]) ∧ OwnI w' w.heap.size w'.heap.size r (pureIn f).1 ∧ Below w.heap.size w w' := by
  obtain ⟨u, rfl, hu⟩ := hv.ex
  obtain ⟨W, hW⟩ : ∃ W, W = w.alloc (.cells #[.int .i64 f.letters, u] 26) := ⟨_, rfl⟩
  have hBW : Below w.heap.size w W := by rw [hW]; exact alloc_below _ _
  have hsW : W.heap.size = w.heap.size + 1 := by rw [hW]; simp
  have hbx : BoxF W w.heap.size f.letters u := by rw [hW]; exact BoxF.new _ _ _ _
  have HU := Lib.hid (hu.below hBW hh)
  have HF := Lib.hid (hv.below hBW hh)
  have HB := Lib.hid hbx
  have HZ := Lib.hid hz
  clear hbx hu hv
  go_enter Try.func48, Try.ntmps48
  go_wp2_with fail
  rw [← hW]
  clear hW
  refine (implValidForm_any W _ _ HF.out (by omega) hz).mono ?_
  rintro e w2 ⟨rfl, hb2⟩
  have hs2 := hb2.size
  have k0 := (HB.out.below hb2 HB.out.lt).c0
  have k1 := (HB.out.below hb2 HB.out.lt).c1
  cases hval : validForm f
  · have HE := Lib.hid (show pureIn f = ([], false) by simp [pureIn, hval])
    go_wp2
    go_ret2
    exact ⟨_, by rw [HE.out]; rfl, by rw [HE.out]; exact OwnI.nil _ _ _ (Nat.le_refl _), hBW.trans (hb2.mono hBW.size)⟩
  · obtain ⟨L, hL, hL1, hL2⟩ := lettersN hval
    have HE := Lib.hid (show pureIn f = (pureFrom f.clauses 1 L, true) by simp [pureIn, hval, hL])
    have hB2 := HB.out.below hb2 HB.out.lt
    rw [hL] at hB2 k0
    have HB2 := Lib.hid hB2
    clear hval hB2
    go_wp2_with fail
    refine (concat_any u f.clauses w2 (HU.out.below hb2 (by omega)) (by omega) HZ.out).mono ?_
    rintro e w3 ⟨al, rfl, hal, hb3⟩
    have hs3 := hb3.size
    have HA := Lib.hid hal
    have hB3 := HB2.out.below hb3 HB2.out.lt
    have HB3 := Lib.hid hB3
    generalize hall : f.clauses.flatten = all at hal
    have HALL := Lib.hid hall
    have HA2 := Lib.hid hal
    clear hal hall hB3
    go_wp2_with fail
    go_loopw [5, 6] (fun a i wr => ∃ (k : Nat) (out : List Int), 1 ≤ k ∧ k ≤ L + 1 ∧ i = .int .i64 k ∧ OwnI wr w3.heap.size wr.heap.size a out ∧ Hid (out ++ pureFrom f.clauses (k : Int) (L + 1 - k) = pureFrom f.clauses 1 L) ∧ out.length ≤ k ∧ Below w3.heap.size w3 wr) (fun _ i _ => L + 1 - (intOf i).toNat)
    case atStart => exact ⟨1, [], Nat.le_refl _, by omega, rfl, OwnI.nil _ _ _ (Nat.le_refl _), Lib.hid (by simp), by simp, Below.refl _ _⟩
    case round =>
      obtain ⟨k, out, hk1, hk, rfl, ho, H, hol, hb⟩ := hrel
      have hs4 := hb.size
      have HO := Lib.hid ho
      have c0 := (HB3.out.below hb HB3.out.lt).c0
      have HA3 := Lib.hid (HA2.out.below hb (Nat.le_refl _))
      clear ho
      by_cases hlt : k ≤ L
      · have HN : Hid (L + 1 - k = (L + 1 - (k + 1)) + 1) := by show L + 1 - k = _; omega
        have hkk : Hid (((k + 1 : Nat) : Int) = (k : Int) + 1) := by show ((k + 1 : Nat) : Int) = _; omega
        have HI1 : Hid (hasI all (k : Int) = hasAny f.clauses (k : Int)) := by rw [Hid, ← HALL.out, hasI_flat]
        have HI2 : Hid (hasI all (-(k : Int)) = hasAny f.clauses (-(k : Int))) := by rw [Hid, ← HALL.out, hasI_flat]
        cases h1 : hasI all (k : Int) <;> cases h2 : hasI all (-(k : Int))
        case true.true =>
          have HP := Lib.hid (pureOf_same (HI1.out.symm.trans h1) (HI2.out.symm.trans h2))
          go_wp2_with (go_at_call 66; refine (has_any _ _ _ _ HA3.out.rd).mono ?_; rintro e w' ⟨rfl, rfl⟩)
          go_roundw
          case rel => exact ⟨k + 1, out, by omega, by omega, by go_num, HO.out, Lib.hid (by rw [← H.out, HN.out, pureFrom, HP.out, List.nil_append, hkk.out]), by omega, hb⟩
          case measure => simp [intOf]; omega
        case false.false =>
          have HP := Lib.hid (pureOf_same (HI1.out.symm.trans h1) (HI2.out.symm.trans h2))
          go_wp2_with (go_at_call 66; refine (has_any _ _ _ _ HA3.out.rd).mono ?_; rintro e w' ⟨rfl, rfl⟩)
          go_roundw
          case rel => exact ⟨k + 1, out, by omega, by omega, by go_num, HO.out, Lib.hid (by rw [← H.out, HN.out, pureFrom, HP.out, List.nil_append, hkk.out]), by omega, hb⟩
          case measure => simp [intOf]; omega
        case true.false =>
          have HP := Lib.hid (pureOf_up (HI1.out.symm.trans h1) (HI2.out.symm.trans h2))
          go_wp2_with (first | (go_at_call 66; refine (has_any _ _ _ _ HA3.out.rd).mono ?_; rintro e w' ⟨rfl, rfl⟩) | (at_builtin; refine wpList_app1 rfl _ _ rfl _ out rfl (k : Int) _ HO.out rfl (by constructor <;> omega) (by omega) hs4 ?_))
          intro v2 w5 ho2 hsm hz3 _
          have HO2 := Lib.hid ho2
          clear ho2
          go_wp2
          go_roundw
          case rel => exact ⟨k + 1, out ++ [(k : Int)], by omega, by omega, by go_num, HO2.out, Lib.hid (by rw [← H.out, HN.out, pureFrom, HP.out, List.append_assoc, hkk.out]), by simp; omega, hb.trans (hsm.below (Nat.le_refl _) hs4)⟩
          case measure => simp [intOf]; omega
        case false.true =>
          have HP := Lib.hid (pureOf_down (HI1.out.symm.trans h1) (HI2.out.symm.trans h2))
          go_wp2_with (first | (go_at_call 66; refine (has_any _ _ _ _ HA3.out.rd).mono ?_; rintro e w' ⟨rfl, rfl⟩) | (at_builtin; refine wpList_app1 rfl _ _ rfl _ out rfl (-(k : Int)) _ HO.out rfl (by constructor <;> omega) (by omega) hs4 ?_))
          intro v2 w5 ho2 hsm hz3 _
          have HO2 := Lib.hid ho2
          clear ho2
          go_wp2
          go_roundw
          case rel => exact ⟨k + 1, out ++ [-(k : Int)], by omega, by omega, by go_num, HO2.out, Lib.hid (by rw [← H.out, HN.out, pureFrom, HP.out, List.append_assoc, hkk.out]), by simp; omega, hb.trans (hsm.below (Nat.le_refl _) hs4)⟩
          case measure => simp [intOf]; omega
      · obtain rfl : k = L + 1 := by omega
        go_wp2
        go_ret2
        refine ⟨_, by rw [HE.out]; rfl, ?_, hBW.trans ((hb2.trans ((hb3.trans (hb.mono hs3)).mono hs2)).mono hBW.size)⟩
        rw [HE.out, ← H.out, Nat.sub_self, pureFrom, List.append_nil]
        exact HO.out.mono (by omega) (Nat.le_refl _) (Nat.le_refl _)
end Go.Proofs.Ytcpbgjnijhcpkaa

namespace Go.Proofs.Ytcpbgjnijhcpkaa
open Go.RowKit
set_option linter.unusedVariables false
set_option maxRecDepth 100000

theorem OwnI.shape2 {w : World} {lo hi : Nat} {v : Value} {zs : List Int} (h : OwnI w lo hi v zs) : ∃ a cap, v = .slice a zs.length cap := by
  obtain ⟨a, cap, e, _⟩ := h.rd.out
  exact ⟨a, cap, e⟩
def lenV : Value → Nat
  | .slice _ n _ => n
  | _ => 0
theorem oneSliceW (w : World) (x : Int) (hx : I64 x) : OwnI (w.alloc (.cells #[.int .i64 x] 2)) w.heap.size (w.heap.size + 1) (.slice (some ⟨w.heap.size, 0, none⟩) 1 1) [x] :=
  ⟨⟨World.ownsRow_lit w #[.int .i64 x] 1 (Nat.le_refl _) (by simp [maxLen]) (by simp), fun k e => by simp [Value.ownBlock] at e; omega, by simp⟩, by simpa using hx, by simp⟩
theorem cell_new_at (w : World) (cs : Array Value) (e : TypeId) (j : Nat) (hj : j < cs.size) : (w.alloc (.cells cs e)).cell? ⟨w.heap.size, j, none⟩ = some cs[j] := by
  rw [World.cell?_alloc_at _ _ _ _ rfl]
  simp [hj]
theorem wpList_app2 {w : World} {ops : Array Oper} {rest : List Oper} {o : Oper} {a : Act} {Q : Exit → Act → World → Prop} (hgd : o.guard = none) (s x : Operand)
    (ho : o.op = .call { callee := .builtin .append, args := #[s, x], argTypes := #[34, 34] })
    {lo hi : Nat} (v : Value) (xs : List Int) (hs : a.eval s = v) (y z : Int) (e : TypeId) (hv : OwnI w lo hi v xs) (hx : a.eval x = .slice (some ⟨w.heap.size, 0, none⟩) 2 2)
    (hy : I64 y) (hz : I64 z) (hl : xs.length + 2 ≤ 1099511627776) (hlo : lo ≤ w.heap.size)
    (h : ∀ v' w', OwnI w' lo w'.heap.size v' (xs ++ [y, z]) → Same lo hi w w' → w.heap.size + 1 ≤ w'.heap.size → (v'.ownBlock = v.ownBlock ∨ v'.ownBlock = some (w.heap.size + 1)) → wpList Try.prog ops Q rest (a.put o.dst v') w') :
    wpList Try.prog ops Q (o :: rest) a (w.alloc (.cells #[.int .i64 y, .int .i64 z] e)) := by
  refine wpList_appI hgd s x ho v xs hs (hv.alloc _) [y, z] ⟨w.heap.size, 0, none⟩ 2 hx (by simp) (by intro q hq; simp at hq; rcases hq with rfl | rfl <;> assumption) ?_ (by simpa using hl) (by simp; omega) ?_
  · intro j hj
    have hj0 : j = 0 ∨ j = 1 := by simp at hj; omega
    rcases hj0 with rfl | rfl
    · rw [add_zero_plain]
      exact cell_new_at w #[.int .i64 y, .int .i64 z] e 0 (by simp)
    · have : (⟨w.heap.size, 0, none⟩ : Addr).add 1 = ⟨w.heap.size, 1, none⟩ := by unfold Addr.add; simp
      rw [this]
      exact cell_new_at w #[.int .i64 y, .int .i64 z] e 1 (by simp)
  · intro v' w' h1 h2 h3 h4
    simp only [World.size_alloc] at h3 h4
    exact h v' w' h1 (((Same.refl lo hi w).alloc _).trans h2) h3 h4
theorem wpList_app2K {w : World} {ops : Array Oper} {rest : List Oper} {o : Oper} {a : Act} {Q : Exit → Act → World → Prop} (hgd : o.guard = none) (s x : Operand)
    (ho : o.op = .call { callee := .builtin .append, args := #[s, x], argTypes := #[34, 34] })
    {lo hi : Nat} (v : Value) (xs : List Int) (hs : a.eval s = v) (y z : Int) (e : TypeId) (hv : OwnI w lo hi v xs) (hx : a.eval x = .slice (some ⟨w.heap.size, 0, none⟩) 2 2)
    (hy : I64 y) (hz' : I64 z) (hl : xs.length + 2 ≤ 1099511627776) (hlo : lo ≤ w.heap.size)
    (h : ∀ v' w', OwnI w' lo w'.heap.size v' (xs ++ [y, z]) → (∀ k, k < w.heap.size → v.ownBlock ≠ some k → w'.heap[k]? = w.heap[k]?) → Same lo hi w w' → w.heap.size + 1 ≤ w'.heap.size → (v'.ownBlock = v.ownBlock ∨ v'.ownBlock = some (w.heap.size + 1)) → wpList Try.prog ops Q rest (a.put o.dst v') w') :
    wpList Try.prog ops Q (o :: rest) a (w.alloc (.cells #[.int .i64 y, .int .i64 z] e)) := by
  obtain ⟨p, q, hn, hpq⟩ := hv.narrow2
  have hz := hv.own.hsz
  have hn2 := hn.own.hsz
  refine wpList_app2 hgd s x ho v xs hs y z e hn hx hy hz' hl (by rcases hpq with ⟨_, rfl, _⟩ | ⟨_, rfl, h1, h2⟩ <;> omega) ?_
  intro v' w' h1 h2 h3 h4
  have hkeep : ∀ k, k < w.heap.size → v.ownBlock ≠ some k → w'.heap[k]? = w.heap[k]? := by
    intro k hk hne
    refine h2.block k hk fun hx' => ?_
    rcases hpq with ⟨_, rfl, rfl⟩ | ⟨e1, rfl, _, _⟩
    · omega
    · exact hne (by rw [e1]; congr 1; omega)
  refine h v' w' (h1.widen2 (Nat.le_refl _) fun k hk => ⟨?_, (h1.own.row.lt k hk).2⟩) hkeep ?_ h3 h4
  · rcases h4 with h4 | h4
    · rw [h4] at hk; exact (hv.own.row.lt k hk).1
    · rw [h4] at hk; cases hk; omega
  · rcases hpq with ⟨_, rfl, rfl⟩ | ⟨e1, rfl, g1, g2⟩
    · exact ⟨h2.os, h2.tape, h2.output, h2.size, fun k hk _ => h2.block k hk (by omega)⟩
    · exact h2.mono g1 (by omega)
/-- two own slices stay apart when one has grown -/
theorem apart_grow {w : World} {v v' u : Value} {B : Nat} (ha : ∀ p, u.ownBlock = some p → v.ownBlock ≠ some p) (hu : ∀ p, u.ownBlock = some p → p < B) (h : v'.ownBlock = v.ownBlock ∨ v'.ownBlock = some (B + 1)) : ∀ p, u.ownBlock = some p → v'.ownBlock ≠ some p := by
  intro p hp e
  rcases h with h | h
  · exact ha p hp (h ▸ e)
  · rw [h] at e; cases e; have := hu _ hp; omega
end Go.Proofs.Ytcpbgjnijhcpkaa

namespace Go.Proofs.Ytcpbgjnijhcpkaa
open Go.RowKit
set_option linter.unusedVariables false
set_option maxRecDepth 100000

/-! ### bytes -/
structure Byts (w : World) (lo hi : Nat) (v : Value) (zs : List Int) : Prop where
  sl : Sl w lo hi 1 zs.length v (fun i => .int .u8 (zs.getD i 0))
  rng : ∀ n ∈ zs, 0 ≤ n ∧ n ≤ 255
section
variable {w w' : World} {lo hi : Nat} {v : Value} {zs : List Int}
theorem Byts.out (h : Byts w lo hi v zs) : ∃ a cap, v = .slice a zs.length cap ∧ zs.length ≤ cap ∧ cap ≤ 9223372036854775807 ∧
    (zs = [] ∨ ∃ b off, a = some ⟨b, off, none⟩ ∧ lo ≤ b ∧ b < hi ∧ hi ≤ w.heap.size ∧ ∀ i, i < zs.length → w.cell? ⟨b, off + i, none⟩ = some (.int .u8 (zs.getD i 0))) := by
  obtain ⟨a, cap, e, h1, h2, h3⟩ := h.sl.out
  refine ⟨a, cap, e, h1, h2, ?_⟩
  rcases h3 with h3 | ⟨b, off, r1, r2, r3, r4, r5⟩
  · exact .inl (List.eq_nil_of_length_eq_zero h3)
  · exact .inr ⟨b, off, r1, r2, r3, r4, fun i hi => r5 i (by omega)⟩
theorem Byts.len (h : Byts w lo hi v zs) : zs.length ≤ 9223372036854775807 := h.sl.len
theorem Byts.mono {lo' hi' : Nat} (h : Byts w lo hi v zs) (hl : lo' ≤ lo) (hh : hi ≤ hi') (hw : hi' ≤ w.heap.size) : Byts w lo' hi' v zs := ⟨h.sl.mono hl hh hw, h.rng⟩
theorem Byts.keep (h : Byts w lo hi v zs) (hs : w.heap.size ≤ w'.heap.size) (hb : ∀ k, lo ≤ k → k < hi → k < w.heap.size → w'.heap[k]? = w.heap[k]?) : Byts w' lo hi v zs := ⟨h.sl.keep hs hb, h.rng⟩
theorem Byts.below {B : Nat} (h : Byts w lo hi v zs) (hb : Below B w w') (hB : hi ≤ B) : Byts w' lo hi v zs := ⟨h.sl.below hb hB, h.rng⟩
theorem Byts.same {l h' : Nat} (h : Byts w lo hi v zs) (hb : Same l h' w w') (hB : hi ≤ l ∨ h' ≤ lo) : Byts w' lo hi v zs := ⟨h.sl.same hb hB, h.rng⟩
theorem Byts.drew (h : Byts w lo hi v zs) (hd : Drew w w') : Byts w' lo hi v zs := ⟨h.sl.drew hd, h.rng⟩
theorem Byts.byte (h : Byts w lo hi v zs) {i : Nat} (hi : i < zs.length) : 0 ≤ zs.getD i 0 ∧ zs.getD i 0 ≤ 255 := by
  have : zs.getD i 0 ∈ zs := by rw [List.getD, List.getElem?_eq_getElem hi]; exact List.getElem_mem _
  exact h.rng _ this
end
/-! ### the source -/
theorem lt_of_blk {w : World} {q : Nat} {o : Obj} (h : w.heap[q]? = some o) : q < w.heap.size := by
  by_cases hq : q < w.heap.size
  · exact hq
  · rw [Array.getElem?_eq_none (by omega)] at h; cases h
structure Cel3 (w : World) (q : Nat) (t : TypeId) (x y z : Value) : Prop where
  b : w.heap[q]? = some (.cells #[x, y, z] t (0, 0))
section
variable {w w' : World} {q : Nat} {t : TypeId} {x y z : Value}
theorem Cel3.lt (h : Cel3 w q t x y z) : q < w.heap.size := lt_of_blk h.b
theorem Cel3.c0 (h : Cel3 w q t x y z) : w.cell? ⟨q, 0, none⟩ = some x := by simp [World.cell?, h.b]
theorem Cel3.c1 (h : Cel3 w q t x y z) : w.cell? ⟨q, 1, none⟩ = some y := by simp [World.cell?, h.b]
theorem Cel3.c2 (h : Cel3 w q t x y z) : w.cell? ⟨q, 2, none⟩ = some z := by simp [World.cell?, h.b]
theorem Cel3.f0 (h : Cel3 w q t x y z) : w.frozen? ⟨q, 0, none⟩ = false := by simp [World.frozen?, h.b]
theorem Cel3.f1 (h : Cel3 w q t x y z) : w.frozen? ⟨q, 1, none⟩ = false := by simp [World.frozen?, h.b]
theorem Cel3.f2 (h : Cel3 w q t x y z) : w.frozen? ⟨q, 2, none⟩ = false := by simp [World.frozen?, h.b]
theorem Cel3.keep (h : Cel3 w q t x y z) (hb : w'.heap[q]? = w.heap[q]?) : Cel3 w' q t x y z := ⟨by rw [hb]; exact h.b⟩
theorem Cel3.drew (h : Cel3 w q t x y z) (hd : Drew w w') : Cel3 w' q t x y z := h.keep (by rw [hd.heap])
theorem Cel3.set1 (h : Cel3 w q t x y z) (u : Value) : Cel3 (w.setCell ⟨q, 1, none⟩ u) q t x u z := by
  have hlt := h.lt
  have h' : w.heap[q] = .cells #[x, y, z] t (0, 0) := by simpa [Array.getElem?_eq_getElem hlt] using h.b
  refine ⟨?_⟩
  show (w.heap.modify q _)[q]? = _
  rw [Array.getElem?_eq_getElem (by simpa using hlt), Array.getElem_modify_self, h']
  rfl
theorem Cel3.set2 (h : Cel3 w q t x y z) (u : Value) : Cel3 (w.setCell ⟨q, 2, none⟩ u) q t x y u := by
  have hlt := h.lt
  have h' : w.heap[q] = .cells #[x, y, z] t (0, 0) := by simpa [Array.getElem?_eq_getElem hlt] using h.b
  refine ⟨?_⟩
  show (w.heap.modify q _)[q]? = _
  rw [Array.getElem?_eq_getElem (by simpa using hlt), Array.getElem_modify_self, h']
  rfl
theorem Cel3.new (w : World) (t : TypeId) (x y z : Value) : Cel3 (w.alloc (.cells #[x, y, z] t)) w.heap.size t x y z := ⟨heap_alloc_new w _⟩
end
/-- block q is a source that has been asked n times at most -/
structure SrcC (w : World) (q n : Nat) : Prop where
  ex : ∃ (v : Value) (bs : List Int) (a s l h : Nat), Cel3 w q 107 v (.int .i64 a) (.int .u64 s) ∧ Byts w l h v bs ∧ h ≤ q ∧ a ≤ n ∧ s < 18446744073709551616
section
variable {w w' : World} {q n : Nat}
theorem SrcC.lt (h : SrcC w q n) : q < w.heap.size := by obtain ⟨_, _, _, _, _, _, h1, _⟩ := h.ex; exact h1.lt
theorem SrcC.mono {m : Nat} (h : SrcC w q n) (hm : n ≤ m) : SrcC w q m := by
  obtain ⟨v, bs, a, s, l, g, h1, h2, h3, h4, h5⟩ := h.ex; exact ⟨v, bs, a, s, l, g, h1, h2, h3, by omega, h5⟩
theorem SrcC.same {lo hi : Nat} (h : SrcC w q n) (hs : Same lo hi w w') (hq : q < lo) : SrcC w' q n := by
  obtain ⟨v, bs, a, s, l, g, h1, h2, h3, h4, h5⟩ := h.ex
  exact ⟨v, bs, a, s, l, g, h1.keep (hs.block q h1.lt (by omega)), h2.same hs (.inl (by omega)), h3, h4, h5⟩
theorem SrcC.below {B : Nat} (h : SrcC w q n) (hs : Below B w w') (hq : q < B) : SrcC w' q n := by
  obtain ⟨v, bs, a, s, l, g, h1, h2, h3, h4, h5⟩ := h.ex
  exact ⟨v, bs, a, s, l, g, h1.keep (hs.block q hq), h2.below hs (by omega), h3, h4, h5⟩
theorem SrcC.drew (h : SrcC w q n) (hd : Drew w w') : SrcC w' q n := h.below (hd.below (q + 1)) (Nat.lt_succ_self _)
theorem SrcC.alloc (h : SrcC w q n) (o : Obj) : SrcC (w.alloc o) q n := h.below ((Below.refl w.heap.size w).alloc (Nat.le_refl _) o) h.lt
end
theorem seed_any (s : Nat) (y : Int) : ∃ s3 : Nat, IntKind.u64.wrap (IntKind.u64.wrap (IntKind.u64.wrap ((s : Int) * 6364136223846793005) + y) + 1442695040888963407) = (s3 : Int) ∧ s3 < 18446744073709551616 := by
  generalize IntKind.u64.wrap (IntKind.u64.wrap ((s : Int) * 6364136223846793005) + y) + 1442695040888963407 = z
  refine ⟨(IntKind.u64.wrap z).toNat, ?_, ?_⟩
  · rw [IntKind.wrap_u64]; omega
  · rw [IntKind.wrap_u64]; omega
theorem seed0_any (s : Nat) : ∃ s3 : Nat, IntKind.u64.wrap (IntKind.u64.wrap (IntKind.u64.wrap ((s : Int) * 6364136223846793005)) + 1442695040888963407) = (s3 : Int) ∧ s3 < 18446744073709551616 := by
  generalize IntKind.u64.wrap (IntKind.u64.wrap ((s : Int) * 6364136223846793005)) + 1442695040888963407 = z
  refine ⟨(IntKind.u64.wrap z).toNat, ?_, ?_⟩
  · rw [IntKind.wrap_u64]; omega
  · rw [IntKind.wrap_u64]; omega
theorem byte_any (s : Nat) (hs : s < 18446744073709551616) : ∃ x : Int, wrap64 (bits .and .u64 ((s : Int) / 1099511627776) 255) = x ∧ 0 ≤ x ∧ x ≤ 255 := by
  have e : ((s : Int) / 1099511627776) = ((s / 1099511627776 : Nat) : Int) := by simp
  have hl : s / 1099511627776 ≤ s := Nat.div_le_self _ _
  rw [e]
  generalize s / 1099511627776 = a at *
  have h1 : (BitVec.ofInt 64 (a : Int)).toNat = a := by
    rw [BitVec.ofInt_natCast, BitVec.toNat_ofNat]; exact Nat.mod_eq_of_lt (by omega)
  have h2 : (BitVec.ofInt 64 ((255 : Nat) : Int)).toNat = 255 := rfl
  have h3 : bits .and .u64 (a : Int) 255 = ((a &&& 255 : Nat) : Int) := by
    show IntKind.u64.wrap ((BitVec.ofInt 64 (a : Int) &&& BitVec.ofInt 64 ((255 : Nat) : Int)).toNat : Int) = _
    rw [BitVec.toNat_and, h1, h2]
    have : a &&& 255 ≤ 255 := Nat.and_le_right
    exact IntWalk.u64_in _ (by omega)
  have : a &&& 255 ≤ 255 := Nat.and_le_right
  exact ⟨((a &&& 255 : Nat) : Int), by rw [h3]; unfold wrap64; omega, by omega, by omega⟩
set_option maxHeartbeats 800000 in
set_option maxRecDepth 100000 in
theorem srcNext_any {q n : Nat} (w : World) (hq : SrcC w q n) (hn : n ≤ 1099511627776) :
    Calls Try.prog 122 #[.pointer (some ⟨q, 0, none⟩)] w fun e w' => ∃ x : Int, e = .returned (.int .i64 x) ∧ (0 ≤ x ∧ x ≤ 255) ∧ SrcC w' q (n + 1) ∧ Same q (q + 1) w w' := by
  obtain ⟨v, bs, a, s, l, h, h1, h2, h3, h4, h5⟩ := hq.ex
  obtain ⟨ba, bc, rfl, hc1, hc2, hd⟩ := h2.out
  have k0 := h1.c0
  have k1 := h1.c1
  have k2 := h1.c2
  have f1 := h1.f1
  have f2 := h1.f2
  have H1 := Lib.hid h1
  have H2 := Lib.hid h2
  by_cases hlt : a < bs.length
  · rcases hd with hd | ⟨b, off, rfl, hb1, hb2, hb3, hcell⟩
    · rw [hd] at hlt; simp at hlt
    have hck := hcell a hlt
    obtain ⟨y, hy⟩ : ∃ y, y = bs.getD a 0 := ⟨_, rfl⟩
    rw [← hy] at hck
    have hyr : 0 ≤ y ∧ y ≤ 255 := by rw [hy]; exact h2.byte hlt
    clear h1 h2 hcell hy
    go_enter Try.func122, Try.ntmps122
    go_wp2_with fail
    go_quiet (fail)
    obtain ⟨w1, hw1⟩ : ∃ w1, w1 = w.drewN nq := ⟨_, rfl⟩
    have hD1 : Drew w w1 := ⟨_, hw1⟩
    rw [← hw1]
    clear hw1
    rw [← hD1.cell] at k0 k1 k2 hck
    rw [← hD1.frozen] at f1 f2
    go_wp2_with fail
    go_quiet (fail)
    obtain ⟨w2, hw2⟩ : ∃ w2, w2 = w1.drewN nq := ⟨_, rfl⟩
    have hD2 : Drew w1 w2 := ⟨_, hw2⟩
    rw [← hw2]
    clear hw2
    rw [← hD2.cell] at k0 k1 k2 hck
    rw [← hD2.frozen] at f1 f2
    obtain ⟨s3, hs3, hs4⟩ := seed_any s y
    go_wp2_with fail
    obtain ⟨W3, hW3⟩ : ∃ X, X = (w2.setCell ⟨q, 1, none⟩ (.int .i64 ((a : Int) + 1))).setCell ⟨q, 2, none⟩ (.int .u64 (s3 : Int)) := ⟨_, rfl⟩
    have h13 : Cel3 W3 q 107 (.slice (some ⟨b, off, none⟩) bs.length bc) (.int .i64 ((a + 1 : Nat) : Int)) (.int .u64 (s3 : Int)) := by rw [hW3]; exact (((H1.out.drew hD1).drew hD2).set1 _).set2 _
    have hS : Same q (q + 1) w2 W3 := by rw [hW3]; exact ((Same.refl q (q + 1) w2).setCell (p := ⟨q, 1, none⟩) (Nat.le_refl _) (Nat.lt_succ_self _) _).setCell (p := ⟨q, 2, none⟩) (Nat.le_refl _) (Nat.lt_succ_self _) _
    rw [← hW3]
    have HSR : Hid (SrcC W3 q (n + 1)) := ⟨_, bs, a + 1, s3, l, h, h13, ((H2.out.drew hD1).drew hD2).same hS (.inl h3), h3, by omega, hs4⟩
    have HSS : Hid (Same q (q + 1) w W3) := ((Same.of_below (hD1.below w.heap.size) (Nat.le_refl _)).trans (Same.of_below (hD2.below w1.heap.size) (Nat.le_refl _))).trans hS
    have HS4 := Lib.hid hs4
    clear hs3 hs4 k0 k1 k2 f1 f2 hW3 hS
    have k0 := h13.c0
    have k1 := h13.c1
    have k2 := h13.c2
    clear h13
    have hle : ((a : Int) + 1 ≤ (bs.length : Int)) := by omega
    clear hck
    go_quiet (fail)
    go_wp2
    go_ret
    exact ⟨y, rfl, hyr, HSR.out.drew (Drew.one _ _), HSS.out.trans (Same.of_below ((Drew.one W3 _).below W3.heap.size) (Nat.le_refl _))⟩
  · clear hd h1 h2
    go_enter Try.func122, Try.ntmps122
    go_wp2_with fail
    go_quiet (fail)
    obtain ⟨w2, hw2⟩ : ∃ w2, w2 = w.drewN nq := ⟨_, rfl⟩
    have hD2 : Drew w w2 := ⟨_, hw2⟩
    rw [← hw2]
    clear hw2
    rw [← hD2.cell] at k0 k1 k2
    rw [← hD2.frozen] at f1 f2
    obtain ⟨s3, hs3, hs4⟩ := seed0_any s
    go_wp2_with fail
    obtain ⟨W3, hW3⟩ : ∃ X, X = (w2.setCell ⟨q, 1, none⟩ (.int .i64 ((a : Int) + 1))).setCell ⟨q, 2, none⟩ (.int .u64 (s3 : Int)) := ⟨_, rfl⟩
    have h13 : Cel3 W3 q 107 (.slice ba bs.length bc) (.int .i64 ((a + 1 : Nat) : Int)) (.int .u64 (s3 : Int)) := by rw [hW3]; exact ((H1.out.drew hD2).set1 _).set2 _
    have hS : Same q (q + 1) w2 W3 := by rw [hW3]; exact ((Same.refl q (q + 1) w2).setCell (p := ⟨q, 1, none⟩) (Nat.le_refl _) (Nat.lt_succ_self _) _).setCell (p := ⟨q, 2, none⟩) (Nat.le_refl _) (Nat.lt_succ_self _) _
    rw [← hW3]
    have HSR : Hid (SrcC W3 q (n + 1)) := ⟨_, bs, a + 1, s3, l, h, h13, (H2.out.drew hD2).same hS (.inl h3), h3, by omega, hs4⟩
    have HSS : Hid (Same q (q + 1) w W3) := (Same.of_below (hD2.below w.heap.size) (Nat.le_refl _)).trans hS
    have HS4 := Lib.hid hs4
    clear hs3 hs4 k0 k1 k2 f1 f2 hW3 hS
    have k0 := h13.c0
    have k1 := h13.c1
    have k2 := h13.c2
    clear h13
    have hle : ¬ ((a : Int) + 1 ≤ (bs.length : Int)) := by omega
    go_quiet (fail)
    obtain ⟨y, hy, hy0, hy1⟩ := byte_any s3 HS4.out
    go_wp2
    go_ret
    exact ⟨y, rfl, ⟨hy0, hy1⟩, HSR.out.drew (Drew.one _ _), HSS.out.trans (Same.of_below ((Drew.one W3 _).below W3.heap.size) (Nat.le_refl _))⟩
set_option maxHeartbeats 800000 in
set_option maxRecDepth 100000 in
theorem srcPick_any {q n : Nat} (m : Int) (w : World) (hq : SrcC w q n) (hn : n ≤ 1099511627000) (h1 : 1 ≤ m) (h2 : m ≤ 200) :
    Calls Try.prog 106 #[.pointer (some ⟨q, 0, none⟩), .int .i64 m] w fun e w' => ∃ x : Int, e = .returned (.int .i64 x) ∧ (0 ≤ x ∧ x < m) ∧ SrcC w' q (n + 1) ∧ Same q (q + 1) w w' := by
  by_cases hm : m ≤ 1
  · obtain rfl : m = 1 := by omega
    go_enter Try.func106, Try.ntmps106
    go_wp2
    go_ret
    exact ⟨0, rfl, ⟨by decide, by decide⟩, hq.mono (Nat.le_succ _), Same.refl _ _ _⟩
  · have HN := Lib.hid (srcNext_any w hq (by omega))
    have hm2 : ¬ (200 < m) := by omega
    clear hq
    go_enter Try.func106, Try.ntmps106
    go_wp2_with fail
    refine HN.out.mono ?_
    rintro e w2 ⟨x, rfl, hx, hs, hsm⟩
    have HS := Lib.hid hs
    have HM := Lib.hid hsm
    have e1 : x.tmod m = x % m := Int.tmod_eq_emod_of_nonneg hx.1
    have hr0 : 0 ≤ x % m := Int.emod_nonneg _ (by omega)
    have hr1 : x % m < m := Int.emod_lt_of_pos _ (by omega)
    have hm0 : m ≠ 0 := by omega
    obtain ⟨z, hz⟩ : ∃ z, x % m = z := ⟨_, rfl⟩
    rw [hz] at e1 hr0 hr1
    clear hs hsm
    go_wp2_with fail
    go_ret
    exact ⟨z, rfl, ⟨hr0, hr1⟩, HS.out, HM.out⟩
set_option maxHeartbeats 800000 in
set_option maxRecDepth 100000 in
theorem srcOne_any {q n : Nat} (m : Int) (w : World) (hq : SrcC w q n) (hn : n ≤ 1099511627000) (h1 : 1 ≤ m) (h2 : m ≤ 200) :
    Calls Try.prog 123 #[.pointer (some ⟨q, 0, none⟩), .int .i64 m] w fun e w' => ∃ b : Bool, e = .returned (.bool b) ∧ SrcC w' q (n + 1) ∧ Same q (q + 1) w w' := by
  have HN := Lib.hid (srcPick_any m w hq hn h1 h2)
  clear hq
  go_enter Try.func123, Try.ntmps123
  go_wp2_with fail
  refine HN.out.mono ?_
  rintro e w2 ⟨x, rfl, hx, hs, hsm⟩
  have HS := Lib.hid hs
  have HM := Lib.hid hsm
  clear hs hsm
  go_wp2_with fail
  go_ret
  exact ⟨_, rfl, HS.out, HM.out⟩
set_option maxHeartbeats 400000 in
set_option maxRecDepth 100000 in
theorem l00From_any {l h : Nat} (v : Value) (bs : List Int) (w : World) (hv : Byts w l h v bs) (hh : h ≤ w.heap.size) :
    Calls Try.prog 49 #[v] w fun e w' => e = .returned (.pointer (some ⟨w.heap.size, 0, none⟩)) ∧ SrcC w' w.heap.size 0 ∧ Below w.heap.size w w' := by
  obtain ⟨a, cap, rfl, hc1, hc2, hd⟩ := hv.out
  have hb : Below w.heap.size w (w.alloc (.cells #[.slice a bs.length cap, .int .i64 0, .int .u64 0] 107)) := (Below.refl _ _).alloc (Nat.le_refl _) _
  have hs : SrcC (w.alloc (.cells #[.slice a bs.length cap, .int .i64 0, .int .u64 0] 107)) w.heap.size 0 :=
    ⟨_, bs, 0, 0, l, h, Cel3.new w 107 _ _ _, hv.below hb hh, hh, Nat.le_refl _, by decide⟩
  have HB := Lib.hid hb
  have HS := Lib.hid hs
  clear hv hd hb hs
  go_enter Try.func49, Try.ntmps49
  go_wp2
  go_ret
  exact ⟨rfl, HS.out, HB.out⟩
end Go.Proofs.Ytcpbgjnijhcpkaa

namespace Go.Proofs.Ytcpbgjnijhcpkaa
open Go.RowKit
set_option linter.unusedVariables false
set_option maxRecDepth 100000

/-- the number that some bytes choose -/
def atF (bs : List Int) (i n : Int) : Int := if n ≤ 1 then 0 else if i < (bs.length : Int) then bs.getD i.toNat 0 % n else (i * 37 + 11) % n
theorem atF_rng (bs : List Int) (i n : Int) (hn : 1 ≤ n) : 0 ≤ atF bs i n ∧ atF bs i n < n := by
  unfold atF
  split
  · omega
  · split
    · exact ⟨Int.emod_nonneg _ (by omega), Int.emod_lt_of_pos _ (by omega)⟩
    · exact ⟨Int.emod_nonneg _ (by omega), Int.emod_lt_of_pos _ (by omega)⟩
set_option maxHeartbeats 800000 in
set_option maxRecDepth 100000 in
theorem b10At_any {l h : Nat} (v : Value) (bs : List Int) (i : Nat) (n : Int) (w : World) (hv : Byts w l h v bs) (hi : i ≤ 4294967296) (hn : 0 ≤ n) (hn2 : n ≤ 4294967296) :
    Calls Try.prog 16 #[v, .int .i64 i, .int .i64 n] w fun e w' => e = .returned (.int .i64 (atF bs i n)) ∧ w = w' := by
  obtain ⟨a, cap, rfl, hc1, hc2, hd⟩ := hv.out
  by_cases h1 : n ≤ 1
  · have HE : Hid (atF bs i n = 0) := by unfold Hid atF; rw [if_pos h1]
    clear hv hd
    go_enter Try.func16, Try.ntmps16
    go_wp2
    go_ret
    exact ⟨by rw [HE.out]; rfl, rfl⟩
  · have hn0 : n ≠ 0 := by omega
    have hn1 : n ≠ -1 := by omega
    by_cases h2 : i < bs.length
    · rcases hd with hd | ⟨b, off, rfl, hb1, hb2, hb3, hcell⟩
      · rw [hd] at h2; simp at h2
      have hck := hcell i h2
      have hby := hv.byte h2
      obtain ⟨y, hy⟩ : ∃ y, y = bs.getD i 0 := ⟨_, rfl⟩
      rw [← hy] at hck hby
      have HE : Hid (atF bs i n = y % n) := by unfold Hid atF; rw [if_neg h1, if_pos (by omega), Int.toNat_natCast, hy]
      have e1 : y.tmod n = y % n := Int.tmod_eq_emod_of_nonneg hby.1
      have hr0 : 0 ≤ y % n := Int.emod_nonneg _ hn0
      have hr1 : y % n < n := Int.emod_lt_of_pos _ (by omega)
      obtain ⟨z, hz⟩ : ∃ z, y % n = z := ⟨_, rfl⟩
      rw [hz] at e1 hr0 hr1
      have HZ := Lib.hid hz
      clear hv hcell hy hz
      go_enter Try.func16, Try.ntmps16
      go_wp2_with fail
      go_ret
      exact ⟨by rw [HE.out, HZ.out]; rfl, rfl⟩
    · have HE : Hid (atF bs i n = ((i : Int) * 37 + 11) % n) := by unfold Hid atF; rw [if_neg h1, if_neg (by omega)]
      have e1 : ((i : Int) * 37 + 11).tmod n = ((i : Int) * 37 + 11) % n := Int.tmod_eq_emod_of_nonneg (by omega)
      have hr0 : 0 ≤ ((i : Int) * 37 + 11) % n := Int.emod_nonneg _ hn0
      have hr1 : ((i : Int) * 37 + 11) % n < n := Int.emod_lt_of_pos _ (by omega)
      obtain ⟨z, hz⟩ : ∃ z, ((i : Int) * 37 + 11) % n = z := ⟨_, rfl⟩
      rw [hz] at e1 hr0 hr1
      have HZ := Lib.hid hz
      clear hv hd hz
      go_enter Try.func16, Try.ntmps16
      go_wp2_with fail
      go_ret
      exact ⟨by rw [HE.out, HZ.out]; rfl, rfl⟩
def longF (xs ys : List Int) : Bool := decide (1048576 < (xs.length : Int)) || decide (1048576 < (ys.length : Int))
theorem longF_no {xs ys : List Int} (h : longF xs ys = false) : xs.length ≤ 1048576 ∧ ys.length ≤ 1048576 := by
  unfold longF at h
  rw [Bool.or_eq_false_iff, decide_eq_false_iff_not, decide_eq_false_iff_not] at h
  omega
theorem b10Long_any {l h l' h' : Nat} (v u : Value) (xs ys : List Int) (w : World) (hv : Byts w l h v xs) (hu : Byts w l' h' u ys) :
    Calls Try.prog 7 #[v, u] w fun e w' => e = .returned (.bool (longF xs ys)) ∧ w = w' := by
  obtain ⟨a, cap, rfl, hc1, hc2, hd⟩ := hv.out
  obtain ⟨a', cap', rfl, hc1', hc2', hd'⟩ := hu.out
  clear hv hd hu hd'
  unfold longF
  by_cases h1 : 1048576 < (xs.length : Int)
  · rw [decide_eq_true h1, Bool.true_or]
    go_enter Try.func7, Try.ntmps7
    go_wp2
    go_ret
    exact ⟨rfl, rfl⟩
  · rw [decide_eq_false h1, Bool.false_or]
    have h1' : decide (1048576 < (xs.length : Int)) = false := decide_eq_false h1
    by_cases h2 : 1048576 < (ys.length : Int)
    · rw [decide_eq_true h2]
      have h2' : decide (1048576 < (ys.length : Int)) = true := decide_eq_true h2
      go_enter Try.func7, Try.ntmps7
      go_wp2
      go_ret
      refine ⟨?_, rfl⟩
      first | rfl | (simp [h1', h2'])
    · rw [decide_eq_false h2]
      have h2' : decide (1048576 < (ys.length : Int)) = false := decide_eq_false h2
      go_enter Try.func7, Try.ntmps7
      go_wp2
      go_ret
      refine ⟨?_, rfl⟩
      first | rfl | (simp [h1', h2'])
set_option maxHeartbeats 400000 in
set_option maxRecDepth 100000 in
theorem b10Ints_any {l h l' h' : Nat} (v u : Value) (xs ys : List Int) (w : World) (hv : Ints w l h v xs) (hu : Ints w l' h' u ys) :
    Calls Try.prog 14 #[v, u] w fun e w' => e = .returned (.bool (decide (xs = ys))) ∧ Drew w w' := by
  obtain ⟨a, cap, rfl, hc1, hc2, hd⟩ := hv.out
  obtain ⟨a', cap', rfl, gc1, gc2, gd⟩ := hu.out
  by_cases hlen : xs.length = ys.length
  · have hne : ((xs.length : Int) != (ys.length : Int)) = false := by simp [hlen]
    have Hl := Lib.hid hlen
    clear hlen
    go_enter Try.func14, Try.ntmps14
    go_wp2_with fail
    go_loopw [13] (fun i wr => ∃ k : Nat, k ≤ xs.length ∧ i = .int .i64 k ∧ Hid (xs = ys ↔ xs.drop k = ys.drop k) ∧ Drew w wr) (fun i _ => xs.length - (intOf i).toNat)
    case atStart => exact ⟨0, Nat.zero_le _, rfl, Lib.hid (by simp), Drew.refl _⟩
    case round =>
      obtain ⟨k, hk, rfl, H, hD⟩ := hrel
      have hcw := hD.cell
      by_cases hlt : k < xs.length
      · have glt : k < ys.length := by rw [← Hl.out]; exact hlt
        have HD := Lib.hid (drop_cons xs k hlt)
        have GD := Lib.hid (drop_cons ys k glt)
        rcases hd with rfl | ⟨b, off, rfl, hb1, hb2, hb3, hcell⟩
        · simp at hlt
        rcases gd with rfl | ⟨b', off', rfl, gb1, gb2, gb3, gcell⟩
        · simp at glt
        have hck := hcell k hlt
        have gck := gcell k glt
        clear hcell gcell
        cases hq : (xs[k] != ys[k])
        · go_wp2_with fail
          go_quiet (fail)
          go_wp2
          go_roundw
          case rel => exact ⟨k + 1, by omega, by go_num, Lib.hid (by rw [H.out, HD.out, GD.out, List.cons.injEq]; simp at hq; simp [hq]), hD.step _⟩
          case measure => simp [intOf]; omega
        · go_wp2_with fail
          go_quiet (fail)
          go_wp2
          go_ret
          exact ⟨ret_bool (decide_eq_false (by rw [H.out, HD.out, GD.out, List.cons.injEq]; simp at hq; simp [hq])).symm, hD.step _⟩
      · go_wp2
        go_ret
        exact ⟨ret_bool (decide_eq_true (by rw [H.out, drop_len _ _ (by omega), drop_len _ _ (by rw [← Hl.out]; omega)])).symm, hD⟩
  · have hne : ((xs.length : Int) != (ys.length : Int)) = true := by simp; omega
    have hxy : xs ≠ ys := fun e => hlen (by rw [e])
    go_enter Try.func14, Try.ntmps14
    go_wp2
    go_ret
    exact ⟨ret_bool (by simp [hxy]), Drew.refl _⟩
end Go.Proofs.Ytcpbgjnijhcpkaa

namespace Go.Proofs.Ytcpbgjnijhcpkaa
open Go.ChangeShapes Go.WideShapes Go.ChangeAt Go.RowKit
set_option linter.unusedVariables false
set_option maxRecDepth 100000

theorem own_knob : ownKnob Try.prog.godebug = none := by kernel_rfl
theorem laid_out : laidOutB Try.prog = true := by kernel_rfl
theorem I64_of_wf {n : Int} (h : (Lit.int .i64 n).wf = true) : I64 n := by
  simpa [I64, Lit.wf, IntKind.min, IntKind.max, IntKind.signed, IntKind.bits] using h
theorem addr_of_cell {w : World} {x : Addr} {v : Value} (h : w.cell? x = some v) : x = ⟨x.block, x.off, none⟩ ∧ x.block < w.heap.size := by
  obtain ⟨b, off, spot⟩ := x
  have hs : spot = none := by simpa using World.cell?_spot h
  subst hs
  exact ⟨rfl, World.block_lt_of_cell? w _ h⟩
theorem add_plain (b off i : Nat) : (⟨b, off, none⟩ : Addr).add i = ⟨b, off + i, none⟩ := by unfold Addr.add; split <;> simp_all
set_option maxRecDepth 100000 in
theorem open_I {H : Type} {enc : TypeId × Value → H} {W : World} {base : Nat} {v : Value} {d : DataW H} {p : List MemPlace}
    (hv : Value.okWide Try.prog W .any base 34 v) (h : DataW.Trod enc Try.prog W 0 (fun _ => true) true 34 v d p) : ∃ zs, Ints W 0 W.heap.size v zs := by
  obtain ⟨a, len, cap, rfl⟩ := okWide_slice Try.underlying34 hv
  obtain ⟨fuel, hf⟩ := h
  rcases open_ints Try.underlying34 Try.underlying2 (by kernel_rfl) hf with ⟨hcs, _⟩ | ⟨x, l, c, zs, hcs, _, hl, hm, hz, _, hcell, hwz⟩
  · simp [Value.cells] at hcs
    obtain ⟨rfl, rfl, rfl⟩ := hcs
    exact ⟨[], Ints.nil _ _ _⟩
  · simp [Value.cells] at hcs
    obtain ⟨rfl, rfl, rfl⟩ := hcs
    simp only [if_true] at hz
    have e : (zs.take len).length = len := by rw [List.length_take]; omega
    refine ⟨zs.take len, ⟨⟨some x, cap, by rw [e], by omega, by simpa [maxLen] using hm, ?_⟩, fun n hn => I64_of_wf (hwz n (List.mem_of_mem_take hn))⟩⟩
    rw [e]
    by_cases h0 : len = 0
    · exact .inl h0
    · have hc0 := hcell 0 (by omega)
      have hx : x.add 0 = x := by unfold Addr.add; simp
      rw [hx] at hc0
      obtain ⟨hxe, hxb⟩ := addr_of_cell hc0
      refine .inr ⟨x.block, x.off, by rw [← hxe], Nat.zero_le _, hxb, Nat.le_refl _, fun i hi => ?_⟩
      have := hcell i (by omega)
      rw [hxe, add_plain] at this
      rw [this]
      simp [List.getD, show i < len by omega]
end Go.Proofs.Ytcpbgjnijhcpkaa

namespace Go.Proofs.Ytcpbgjnijhcpkaa
open Go.ChangeShapes Go.WideShapes Go.ChangeAt Go.RowKit
set_option linter.unusedVariables false
set_option maxRecDepth 100000

theorem U8_of_wf {n : Int} (h : (Lit.int .u8 n).wf = true) : 0 ≤ n ∧ n ≤ 255 := by
  simpa [Lit.wf, IntKind.min, IntKind.max, IntKind.signed, IntKind.bits] using h
set_option maxRecDepth 100000 in
theorem open_Y {H : Type} {enc : TypeId × Value → H} {W : World} {base : Nat} {v : Value} {d : DataW H} {p : List MemPlace}
    (hv : Value.okWide Try.prog W .any base 22 v) (h : DataW.Trod enc Try.prog W 0 (fun _ => true) true 22 v d p) : ∃ zs, Byts W 0 W.heap.size v zs := by
  obtain ⟨a, len, cap, rfl⟩ := okWide_slice Try.underlying22 hv
  obtain ⟨fuel, hf⟩ := h
  rcases open_ints Try.underlying22 Try.underlying5 (by kernel_rfl) hf with ⟨hcs, _⟩ | ⟨x, l, c, zs, hcs, _, hl, hm, hz, _, hcell, hwz⟩
  · simp [Value.cells] at hcs
    obtain ⟨rfl, rfl, rfl⟩ := hcs
    exact ⟨[], ⟨⟨none, 0, rfl, Nat.le_refl _, by decide, .inl rfl⟩, by simp⟩⟩
  · simp [Value.cells] at hcs
    obtain ⟨rfl, rfl, rfl⟩ := hcs
    simp only [if_true] at hz
    have e : (zs.take len).length = len := by rw [List.length_take]; omega
    refine ⟨zs.take len, ⟨⟨some x, cap, by rw [e], by omega, by simpa [maxLen] using hm, ?_⟩, fun n hn => U8_of_wf (hwz n (List.mem_of_mem_take hn))⟩⟩
    rw [e]
    by_cases h0 : len = 0
    · exact .inl h0
    · have hc0 := hcell 0 (by omega)
      have hx : x.add 0 = x := by unfold Addr.add; simp
      rw [hx] at hc0
      obtain ⟨hxe, hxb⟩ := addr_of_cell hc0
      refine .inr ⟨x.block, x.off, by rw [← hxe], Nat.zero_le _, hxb, Nat.le_refl _, fun i hi => ?_⟩
      have := hcell i (by omega)
      rw [hxe, add_plain] at this
      rw [this]
      simp [List.getD, show i < len by omega]
end Go.Proofs.Ytcpbgjnijhcpkaa

namespace Go.Proofs.Ytcpbgjnijhcpkaa
open Go.RowKit
set_option linter.unusedVariables false
set_option maxRecDepth 100000

def RisD (S : List Int) : Prop := S.Pairwise fun x y => absI x < absI y
theorem risesD {L : Int} {c : List Int} : ∀ {p : Int}, (∀ x ∈ c, isLit L x = true) → RisD c → (∀ x ∈ c, p < absI x) → risesFrom L p c = true := by
  induction c with
  | nil => intro p _ _ _; rfl
  | cons x r ih =>
    intro p h1 h2 h3
    rw [risesFrom, h1 x (List.mem_cons_self ..), decide_eq_true (h3 x (List.mem_cons_self ..)), ih (fun y hy => h1 y (List.mem_cons_of_mem _ hy)) (List.pairwise_cons.1 h2).2 (fun y hy => (List.pairwise_cons.1 h2).1 y hy)]
    rfl
theorem clauseD {L : Int} {c : List Int} (hL : inB 1 10 L = true) (h1 : ∀ x ∈ c, isLit L x = true) (h2 : RisD c) : isClause L c = true := by
  rw [isClause, hL, Bool.true_and]
  exact risesD h1 h2 (fun x hx => by have := isLit_iff.1 (h1 x hx); unfold absI; split <;> omega)
/-- a clause of letters below x -/
def Cl (L : Int) (x : Nat) (c : List Int) : Prop := (∀ y ∈ c, isLit L y = true) ∧ RisD c ∧ ∀ y ∈ c, absI y < x
theorem Cl.nil (L : Int) (x : Nat) : Cl L x [] := ⟨by simp, List.Pairwise.nil, by simp⟩
theorem Cl.up {L : Int} {x : Nat} {c : List Int} (h : Cl L x c) : Cl L (x + 1) c := ⟨h.1, h.2.1, fun y hy => by have := h.2.2 y hy; omega⟩
theorem absI_nat (x : Nat) : absI (x : Int) = x ∧ absI (-(x : Int)) = x := by unfold absI; constructor <;> split <;> omega
theorem Cl.snoc {L : Int} {x : Nat} {c : List Int} (h : Cl L x c) (hx1 : 1 ≤ x) (hx2 : (x : Int) ≤ L) {y : Int} (hy : y = (x : Int) ∨ y = -(x : Int)) : Cl L (x + 1) (c ++ [y]) := by
  have ha : absI y = x := by rcases hy with rfl | rfl; exact (absI_nat x).1; exact (absI_nat x).2
  refine ⟨?_, ?_, ?_⟩
  · intro z hz
    rcases List.mem_append.1 hz with hz | hz
    · exact h.1 z hz
    · obtain rfl := List.mem_singleton.1 hz
      exact isLit_iff.2 (by rcases hy with rfl | rfl <;> omega)
  · refine List.pairwise_append.2 ⟨h.2.1, List.pairwise_singleton _ _, fun a ha' b hb => ?_⟩
    obtain rfl := List.mem_singleton.1 hb
    rw [ha]; exact h.2.2 a ha'
  · intro z hz
    rcases List.mem_append.1 hz with hz | hz
    · have := h.2.2 z hz; omega
    · obtain rfl := List.mem_singleton.1 hz
      rw [ha]; omega
/-- a change of new blocks alone is a change of block q and of new blocks -/
theorem Same.mono_old {lo hi q : Nat} {a w w' : World} (h : Same lo hi w w') (hq : q < lo) (hl : a.heap.size ≤ w.heap.size) (hlo : lo = a.heap.size) (ha : Same q (q + 1) a w) : Same q (q + 1) a w' :=
  ⟨h.os.trans ha.os, h.tape.trans ha.tape, h.output.trans ha.output, Nat.le_trans ha.size h.size, fun k hk hn => (h.block k (by omega) (by omega)).trans (ha.block k hk hn)⟩
theorem Same.after {lo hi l r : Nat} {a w w' : World} (ha : Same l r a w) (h : Same lo hi w w') (hlo : a.heap.size ≤ lo) : Same l r a w' :=
  ⟨h.os.trans ha.os, h.tape.trans ha.tape, h.output.trans ha.output, Nat.le_trans ha.size h.size, fun k hk hn => (h.block k (by have := ha.size; omega) (by omega)).trans (ha.block k hk hn)⟩
set_option maxHeartbeats 2000000 in
set_option maxRecDepth 100000 in
theorem l05DrawClause_any {q n : Nat} (L M : Nat) (w : World) (hq : SrcC w q n) (hn : n ≤ 1000000) (hL1 : 1 ≤ L) (hL2 : L ≤ 10) (hM : M ≤ 10) :
    Calls Try.prog 107 #[.pointer (some ⟨q, 0, none⟩), .int .i64 L, .int .i64 M] w fun e w' => ∃ u c, e = .returned u ∧ OwnI w' w.heap.size w'.heap.size u c ∧ isClause L c = true ∧ c.length ≤ M ∧ SrcC w' q (n + 2 * L) ∧ Same q (q + 1) w w' := by
  have hqw := hq.lt
  have h0 := emptySlice w
  have HQ0 := Lib.hid (hq.alloc (.cells #[] 2))
  have HS0 := Lib.hid ((Same.refl q (q + 1) w).alloc (.cells #[] 2))
  have HO0 : Hid (OwnI (w.alloc (.cells #[] 2)) w.heap.size (w.alloc (.cells #[] 2)).heap.size (.slice (some ⟨w.heap.size, 0, none⟩) 0 0) []) := h0.mono (Nat.le_refl _) (by simp) (Nat.le_refl _)
  clear h0 hq
  go_enter Try.func107, Try.ntmps107
  go_wp2_with fail
  go_loopw [7, 8, 9] (fun ov mv xv wr => ∃ (x m : Nat) (c : List Int), 1 ≤ x ∧ x ≤ L + 1 ∧ xv = .int .i64 x ∧ mv = .int .i64 m ∧ Hid (Cl L x c) ∧ c.length + m ≤ M ∧ OwnI wr w.heap.size wr.heap.size ov c ∧ SrcC wr q (n + 2 * (x - 1)) ∧ Same q (q + 1) w wr) (fun _ _ xv _ => L + 1 - (intOf xv).toNat)
  case atStart => exact ⟨1, M, [], Nat.le_refl _, by omega, rfl, rfl, Lib.hid (Cl.nil _ _), by simp, HO0.out, HQ0.out, HS0.out⟩
  case round =>
    obtain ⟨x, m, c, hx1, hx2, rfl, rfl, HC, hcm, ho, hsrc, hsm⟩ := hrel
    have hsz := hsm.size
    have HO := Lib.hid ho
    have HSR := Lib.hid hsrc
    have HSM := Lib.hid hsm
    obtain ⟨oa, oc, rfl⟩ := ho.shape
    have hon : n + 2 * (x - 1) ≤ 1099511627000 := by omega
    clear ho hsrc hsm
    by_cases hxL : x ≤ L
    · by_cases hm : 0 < m
      · go_wp2_with fail
        refine (srcOne_any 2 wr HSR.out hon (by decide) (by decide)).mono ?_
        rintro e w2 ⟨b1, rfl, hs2, hm2⟩
        have HM2 := Lib.hid hm2
        cases b1
        · go_wp2
          go_roundw
          case rel => exact ⟨x + 1, m, c, by omega, by omega, by go_num, rfl, Lib.hid HC.out.up, hcm, (HO.out.same hm2 (.inr (by omega))).mono (Nat.le_refl _) hm2.size (Nat.le_refl _), hs2.mono (by omega), HSM.out.trans hm2⟩
          case measure => simp [intOf]; omega
        · go_wp2_with fail
          refine (srcOne_any 2 w2 hs2 (by omega) (by decide) (by decide)).mono ?_
          rintro e w3 ⟨b2, rfl, hs3, hm3⟩
          cases b2
          · clear HM2
            have hz2 := hm2.size
            have hz3 := hm3.size
            have hO3 := Lib.hid (((HO.out.same hm2 (.inr (by omega))).same hm3 (.inr (by omega))).mono (Nat.le_refl _) (show wr.heap.size ≤ w3.heap.size by omega) (Nat.le_refl _))
            have HSM3 := Lib.hid ((HSM.out.trans hm2).trans hm3)
            have HS3 := Lib.hid hs3
            have HCY := Lib.hid (HC.out.snoc hx1 (show (x : Int) ≤ L by omega) (.inl rfl))
            have hz4 : w.heap.size ≤ w3.heap.size := by omega
            have hcl : c.length ≤ 10 := by omega
            clear hm2 hs2 hm3 hs3
            go_wp2_with (at_builtin; refine wpList_app1 rfl _ _ rfl _ c rfl ((x : Int)) _ hO3.out rfl (by constructor <;> omega) (by omega) hz4 ?_)
            intro v4 w4 ho4 hsm4 hz5 _
            go_wp2
            go_roundw
            case rel => exact ⟨x + 1, m - 1, c ++ [(x : Int)], by omega, by omega, by go_num, by go_num, HCY, by simp; omega, ho4, (HS3.out.same hsm4 hqw).mono (by omega), hsm4.mono_old hqw hz4 rfl HSM3.out⟩
            case measure => simp [intOf]; omega
          · clear HM2
            have hz2 := hm2.size
            have hz3 := hm3.size
            have hO3 := Lib.hid (((HO.out.same hm2 (.inr (by omega))).same hm3 (.inr (by omega))).mono (Nat.le_refl _) (show wr.heap.size ≤ w3.heap.size by omega) (Nat.le_refl _))
            have HSM3 := Lib.hid ((HSM.out.trans hm2).trans hm3)
            have HS3 := Lib.hid hs3
            have HCY := Lib.hid (HC.out.snoc hx1 (show (x : Int) ≤ L by omega) (.inr rfl))
            have hz4 : w.heap.size ≤ w3.heap.size := by omega
            have hcl : c.length ≤ 10 := by omega
            clear hm2 hs2 hm3 hs3
            go_wp2_with (at_builtin; refine wpList_app1 rfl _ _ rfl _ c rfl (-(x : Int)) _ hO3.out rfl (by constructor <;> omega) (by omega) hz4 ?_)
            intro v4 w4 ho4 hsm4 hz5 _
            go_wp2
            go_roundw
            case rel => exact ⟨x + 1, m - 1, c ++ [-(x : Int)], by omega, by omega, by go_num, by go_num, HCY, by simp; omega, ho4, (HS3.out.same hsm4 hqw).mono (by omega), hsm4.mono_old hqw hz4 rfl HSM3.out⟩
            case measure => simp [intOf]; omega
      · go_wp2
        go_roundw
        case rel => exact ⟨x + 1, m, c, by omega, by omega, by go_num, rfl, Lib.hid HC.out.up, hcm, HO.out, HSR.out.mono (by omega), HSM.out⟩
        case measure => simp [intOf]; omega
    · obtain rfl : x = L + 1 := by omega
      go_wp2
      go_ret
      exact ⟨_, c, rfl, HO.out, clauseD (by rw [inB, decide_eq_true (by omega), decide_eq_true (by omega)]; rfl) HC.out.1 HC.out.2.1, by omega, HSR.out.mono (by omega), HSM.out⟩
/-- what a drawn form is -/
def DrawnF (f : FormD) : Prop := validForm f = true ∧ 1 ≤ f.letters ∧ f.letters ≤ 5 ∧ f.clauses.length ≤ 9 ∧ ∀ c ∈ f.clauses, c.length ≤ 3
set_option maxHeartbeats 2000000 in
set_option maxRecDepth 100000 in
theorem l05DrawOk_any {q n : Nat} (w : World) (hq : SrcC w q n) (hn : n ≤ 1000) :
    Calls Try.prog 50 #[.pointer (some ⟨q, 0, none⟩)] w fun e w' => ∃ u f, e = .returned u ∧ OwnF w' w.heap.size w'.heap.size u f ∧ DrawnF f ∧ Same q (q + 1) w w' := by
  have hqw := hq.lt
  obtain ⟨W1, hW1⟩ : ∃ X, X = w.alloc (.cells #[.int .i64 0, .slice none 0 0] 26) := ⟨_, rfl⟩
  have hr1 : TwoC W1 w.heap.size 26 (.int .i64 0) (.slice none 0 0) := by rw [hW1]; exact TwoC.new _ _ _ _
  have hs1 : Same q (q + 1) w W1 := by rw [hW1]; exact (Same.refl q (q + 1) w).alloc _
  have hq1 : SrcC W1 q n := by rw [hW1]; exact hq.alloc _
  have hz1 : w.heap.size + 1 ≤ W1.heap.size := by rw [hW1]; simp
  clear hq
  go_enter Try.func50, Try.ntmps50
  go_wp2_with fail
  rw [← hW1]
  clear hW1
  refine (srcPick_any 5 W1 hq1 (by omega) (by decide) (by decide)).mono ?_
  rintro e w2 ⟨x, rfl, hx, hq2, hm2⟩
  obtain ⟨L, hL⟩ : ∃ L : Nat, 1 + x = (L : Int) := ⟨(1 + x).toNat, by omega⟩
  have hL1 : 1 ≤ L := by omega
  have hL5 : L ≤ 5 := by omega
  have hr2 := hr1.same hm2 (.inr (by omega))
  have hz2 := hm2.size
  have hw1 : IntKind.i64.wrap (L : Int) = (L : Int) := IntWalk.i64_in _ (by omega)
  obtain ⟨W3, hW3⟩ : ∃ X, X = w2.alloc (.cells #[.int .i64 L, .slice none 0 0] 26) := ⟨_, rfl⟩
  have hp3 : TwoC W3 w2.heap.size 26 (.int .i64 L) (.slice none 0 0) := by rw [hW3]; exact TwoC.new _ _ _ _
  have hs3 : Same q (q + 1) w W3 := by rw [hW3]; exact (hs1.trans hm2).alloc _
  have hq3 : SrcC W3 q (n + 1) := by rw [hW3]; exact hq2.alloc _
  have hr3 : TwoC W3 w.heap.size 26 (.int .i64 0) (.slice none 0 0) := by rw [hW3]; exact hr2.alloc _
  have hz3 : w2.heap.size + 1 ≤ W3.heap.size := by rw [hW3]; simp
  obtain ⟨fb, hfb⟩ : ∃ b, b = w2.heap.size := ⟨_, rfl⟩
  go_wp2_with fail
  rw [← hW3, ← hfb]
  rw [← hfb] at hp3 hz3
  have hfq : w.heap.size + 1 ≤ fb := by omega
  clear hW3 hL hfb hw1 hr1 hq1 hs1 hq2 hm2 hr2 hz2 hx hz1
  refine (srcPick_any 3 W3 hq3 (by omega) (by decide) (by decide)).mono ?_
  rintro e w4 ⟨x, rfl, hx, hq4, hm4⟩
  obtain ⟨M, hM⟩ : ∃ M : Nat, 1 + x = (M : Int) := ⟨(1 + x).toNat, by omega⟩
  have hM3 : M ≤ 3 := by omega
  have hw1 : IntKind.i64.wrap (M : Int) = (M : Int) := IntWalk.i64_in _ (by omega)
  have hp4 := hp3.same hm4 (.inr (by omega))
  have hr4 := hr3.same hm4 (.inr (by omega))
  have hs4 := hs3.trans hm4
  have hz4 := hm4.size
  go_wp2_with fail
  clear hM hw1 hx hq3 hm4 hp3 hr3 hs3
  refine (srcPick_any 10 w4 hq4 (by omega) (by decide) (by decide)).mono ?_
  rintro e w5 ⟨x5, rfl, hx5, hq5, hm5⟩
  obtain ⟨N, rfl⟩ : ∃ N : Nat, x5 = (N : Int) := ⟨x5.toNat, by omega⟩
  have hN9 : N ≤ 9 := by omega
  have HP5 := Lib.hid (hp4.same hm5 (.inr (by omega)))
  have HR5 := Lib.hid (hr4.same hm5 (.inr (by omega)))
  have HS5 := Lib.hid (hs4.trans hm5)
  have HQ5 := Lib.hid hq5
  have hz5 := hm5.size
  clear hx5 hq4 hm5 hp4 hr4 hs4 hq5
  have hfw5 := HP5.out.lt
  go_wp2_with fail
  go_loopw [5] (fun mv wr => ∃ (m : Nat) (cs : List (List Int)) (ov : Value), mv = .int .i64 m ∧ cs.length + m ≤ 9 ∧ (cs.map List.length).sum ≤ 3 * cs.length ∧ Hid (∀ c ∈ cs, isClause L c = true ∧ c.length ≤ 3) ∧ OwnII wr (fb + 1) wr.heap.size ov cs ∧ TwoC wr fb 26 (.int .i64 L) ov ∧ TwoC wr w.heap.size 26 (.int .i64 0) (.slice none 0 0) ∧ SrcC wr q (n + 3 + 10 * cs.length) ∧ Same q (q + 1) w wr ∧ fb < wr.heap.size) (fun mv _ => (intOf mv).toNat)
  case atStart => exact ⟨N, [], _, rfl, by simp; omega, by simp, Lib.hid (by simp), OwnII.nil _ _ _ (Nat.le_refl _), HP5.out, HR5.out, HQ5.out.mono (by simp), HS5.out, hfw5⟩
  case round =>
    obtain ⟨m, cs, ov, rfl, hcm, hsm, HC, ho, hp, hr, hq, hS, hfr⟩ := hrel
    obtain ⟨oa, oc, rfl⟩ := ho.shape
    have HO := Lib.hid ho
    have HP := Lib.hid hp
    have HR := Lib.hid hr
    have HQ := Lib.hid hq
    have HS := Lib.hid hS
    have hsr := hS.size
    by_cases hm : 0 < m
    · have c1 := hp.c1
      have c0 := hp.c0
      have hDw : Drew wr wr.drew := ⟨1, rfl⟩
      have HDC := Lib.hid (l05DrawClause_any L M wr.drew (hq.drew hDw) (by omega) hL1 (by omega) (by omega))
      clear ho hp hr hq hS
      go_wp2_with fail
      go_region_law (first | (go_simp; go_at_call 107; refine HDC.out.mono ?_; rintro e w3 ⟨u3, c, rfl, ho3, hcl, hcM, hq3, hm3⟩; obtain ⟨qa, qc, rfl⟩ := ho3.shape; have hz3 : wr.heap.size ≤ w3.heap.size := hm3.size; have hp3 := (HP.out.drew hDw).same hm3 (.inr (by omega)); have ho3' := (HO.out.below (hDw.below wr.heap.size) (Nat.le_refl _)).same hm3 (.inr (by omega)); have c66b := hp3.c1; have c66c := (hp3.alloc (.cells #[.slice qa c.length qc] 34)).c1) | ((refine step_appII (by rfl) _ _ (by rfl) _ cs (by rfl) _ c _ ho3' ho3 (Nat.le_refl _) (show fb + 1 ≤ wr.heap.size by omega) (by rfl) (by omega) (by simp; omega) (by omega) ?_; intro v4 w6 ho4 hsm4 hz6; obtain ⟨ya, yc, rfl⟩ := ho4.shape1; have hp4 := hp3.same hsm4 (.inl (Nat.lt_succ_self _)); have c4 := hp4.c1; have f4 := hp4.f1)))
      all_goals
        have HS6 := Lib.hid ((((HS.out.trans (Same.of_below (hDw.below wr.heap.size) (Nat.le_refl _))).trans hm3).after hsm4 (by omega)).after (set1_same w6 fb 1 (.slice ya (cs.length + 1) yc)) (by omega))
        have HQ6 := Lib.hid ((hq3.same hsm4 (by omega)).same (set1_same w6 fb 1 (.slice ya (cs.length + 1) yc)) (by omega))
        have HP6 := Lib.hid (hp4.set1 (.slice ya (cs.length + 1) yc))
        have HR6 := Lib.hid (((((HR.out.drew hDw).same hm3 (.inr (by omega))).same hsm4 (.inl (by omega))).same (set1_same w6 fb 1 (.slice ya (cs.length + 1) yc)) (.inl (by omega))))
        have HO6 : Hid (OwnII (w6.setCell ⟨fb, 1, none⟩ (.slice ya (cs.length + 1) yc)) (fb + 1) (w6.setCell ⟨fb, 1, none⟩ (.slice ya (cs.length + 1) yc)).heap.size (.slice ya (cs.length + 1) yc) (cs ++ [c])) := (ho4.same (set1_same _ _ _ _) (.inr (Nat.le_refl _))).mono (Nat.le_refl _) (set1_same _ _ _ _).size (Nat.le_refl _)
        have HC6 : Hid (∀ d ∈ cs ++ [c], isClause L d = true ∧ d.length ≤ 3) := by
          intro d hd
          rcases List.mem_append.1 hd with hd | hd
          · exact HC.out d hd
          · obtain rfl := List.mem_singleton.1 hd; exact ⟨hcl, by omega⟩
        have hsz6 : (w6.setCell ⟨fb, 1, none⟩ (.slice ya (cs.length + 1) yc)).heap.size = w6.heap.size := by simp
        have hsz7 := Lib.hid hsz6
        clear ho4 hsm4 hp3 ho3' ho3 hq3 hm3 hDw hp4 c4 f4 hsz6
        have hsum6 : Hid (((cs ++ [c]).map List.length).sum ≤ 3 * (cs ++ [c]).length) := by simp [Hid]; omega
        go_wp2
        go_roundw
        case rel => exact ⟨m - 1, cs ++ [c], _, by go_num, by simp; omega, hsum6.out, HC6, HO6.out, HP6.out, HR6.out, HQ6.out.mono (by simp; omega), HS6.out, by rw [hsz7.out]; omega⟩
        case measure => simp [intOf]; omega
    · have c1 := hp.c1
      have c0 := hp.c0
      have d0 := hr.f0
      have d1 := hr.f1
      have r0 := hr.c0
      have r1 := hr.c1
      clear ho hp hq hS
      go_wp2_with fail
      have hS2 := ((Same.refl w.heap.size (w.heap.size + 1) wr).setCell (p := ⟨w.heap.size, 0, none⟩) (Nat.le_refl _) (Nat.lt_succ_self _) (.int .i64 L)).setCell (p := ⟨w.heap.size, 1, none⟩) (Nat.le_refl _) (Nat.lt_succ_self _) (.slice oa cs.length oc)
      refine bodyPost_ret (v := .agg #[.int .i64 L, .slice oa cs.length oc]) (by simp [results, Try.results50, go_sem, r0, r1]) rfl ⟨_, ⟨L, cs⟩, rfl, ⟨⟨_, rfl, (HO.out.same hS2 (.inr (by omega))).mono (by omega) (by simp) (Nat.le_refl _)⟩, by constructor <;> (simp only; omega)⟩, ⟨?_, by simp only; omega, by simp only; omega, by simp only; omega, fun c hc => (HC.out c hc).2⟩, HS.out.after hS2 (Nat.le_refl _)⟩
      unfold validForm
      rw [show inB 1 10 ((L : Nat) : Int) = true by (unfold inB; rw [decide_eq_true (by omega), decide_eq_true (by omega)]; rfl), decide_eq_true (show cs.length ≤ 48 by omega), List.all_eq_true.2 (fun c hc => (HC.out c hc).1)]
      rfl
set_option maxHeartbeats 800000 in
set_option maxRecDepth 100000 in
theorem b10Form_any {l h : Nat} (v : Value) (bs : List Int) (w : World) (hv : Byts w l h v bs) (hh : h ≤ w.heap.size) :
    Calls Try.prog 8 #[v] w fun e w' => ∃ u f, e = .returned u ∧ OwnF w' w.heap.size w'.heap.size u f ∧ DrawnF f ∧ Below w.heap.size w w' := by
  obtain ⟨W1, hW1⟩ : ∃ X, X = w.alloc (.cells #[.int .i64 0, .slice none 0 0] 26) := ⟨_, rfl⟩
  have hr1 : TwoC W1 w.heap.size 26 (.int .i64 0) (.slice none 0 0) := by rw [hW1]; exact TwoC.new _ _ _ _
  have hb1 : Below w.heap.size w W1 := by rw [hW1]; exact alloc_below _ _
  have hz1 : w.heap.size + 1 ≤ W1.heap.size := by rw [hW1]; simp
  have HF := Lib.hid (l00From_any v bs W1 (hv.below hb1 hh) (by omega))
  obtain ⟨a, cap, rfl, hc1, hc2, hd⟩ := hv.out
  clear hv hd
  go_enter Try.func8, Try.ntmps8
  go_wp2_with fail
  rw [← hW1]
  clear hW1
  refine HF.out.mono ?_
  rintro e w2 ⟨rfl, hs2, hb2⟩
  have HD := Lib.hid (l05DrawOk_any w2 hs2 (by decide))
  have hz2 := hb2.size
  have HR2 := Lib.hid (hr1.below hb2 (by omega))
  have HB2 := Lib.hid (hb1.trans (hb2.mono (by omega)))
  clear hs2 hr1 hb1 hb2
  go_wp2_with fail
  refine HD.out.mono ?_
  rintro e w3 ⟨u, f, rfl, hf, hdf, hsm⟩
  have HB3 := Lib.hid (HB2.out.trans (hsm.below (B := w.heap.size) (by omega) (by omega)))
  have HR3 := Lib.hid (HR2.out.same hsm (.inl (by omega)))
  have r0 := HR3.out.c0
  have r1 := HR3.out.c1
  have d0 := HR3.out.f0
  have d1 := HR3.out.f1
  obtain ⟨u, rfl, hu⟩ := hf.ex
  obtain ⟨ua, uc, rfl⟩ := hu.shape
  have HO := Lib.hid hu
  have kf := hf.rng
  have hz3 := hsm.size
  have HDF := Lib.hid hdf
  clear hf hsm hdf hu
  go_wp2_with fail
  have hS2 := ((Same.refl w.heap.size (w.heap.size + 1) w3).setCell (p := ⟨w.heap.size, 0, none⟩) (Nat.le_refl _) (Nat.lt_succ_self _) (.int .i64 f.letters)).setCell (p := ⟨w.heap.size, 1, none⟩) (Nat.le_refl _) (Nat.lt_succ_self _) (.slice ua f.clauses.length uc)
  exact bodyPost_ret (v := .agg #[.int .i64 f.letters, .slice ua f.clauses.length uc]) (by simp [results, Try.results8, go_sem, r0, r1]) rfl ⟨_, f, rfl, ⟨⟨_, rfl, (HO.out.same hS2 (.inr (by omega))).mono (by omega) (by simp) (Nat.le_refl _)⟩, kf⟩, HDF.out, HB3.out.trans (hS2.below (Nat.le_refl _) (by omega))⟩
end Go.Proofs.Ytcpbgjnijhcpkaa

namespace Go.Proofs.Ytcpbgjnijhcpkaa
open Go.RowKit
set_option linter.unusedVariables false
set_option maxRecDepth 100000

set_option maxHeartbeats 400000 in
set_option maxRecDepth 100000 in
theorem slicesEqual_any {l h l' h' : Nat} (v u : Value) (xs ys : List Int) (w : World) (hv : Ints w l h v xs) (hu : Ints w l' h' u ys) :
    Calls Try.prog 116 #[v, u] w fun e w' => e = .returned (.bool (decide (xs = ys))) ∧ Drew w w' := by
  obtain ⟨a, cap, rfl, hc1, hc2, hd⟩ := hv.out
  obtain ⟨a', cap', rfl, gc1, gc2, gd⟩ := hu.out
  by_cases hlen : xs.length = ys.length
  · have hne : ((xs.length : Int) != (ys.length : Int)) = false := by simp [hlen]
    have Hl := Lib.hid hlen
    clear hlen
    go_enter Try.func116, Try.ntmps116
    go_wp2_with fail
    go_loopw [13] (fun i wr => ∃ k : Nat, k ≤ xs.length ∧ i = .int .i64 k ∧ Hid (xs = ys ↔ xs.drop k = ys.drop k) ∧ Drew w wr) (fun i _ => xs.length - (intOf i).toNat)
    case atStart => exact ⟨0, Nat.zero_le _, rfl, Lib.hid (by simp), Drew.refl _⟩
    case round =>
      obtain ⟨k, hk, rfl, H, hD⟩ := hrel
      have hcw := hD.cell
      by_cases hlt : k < xs.length
      · have glt : k < ys.length := by rw [← Hl.out]; exact hlt
        have HD := Lib.hid (drop_cons xs k hlt)
        have GD := Lib.hid (drop_cons ys k glt)
        rcases hd with rfl | ⟨b, off, rfl, hb1, hb2, hb3, hcell⟩
        · simp at hlt
        rcases gd with rfl | ⟨b', off', rfl, gb1, gb2, gb3, gcell⟩
        · simp at glt
        have hck := hcell k hlt
        have gck := gcell k glt
        clear hcell gcell
        cases hq : (xs[k] != ys[k])
        · go_wp2_with fail
          go_quiet (fail)
          go_wp2
          go_roundw
          case rel => exact ⟨k + 1, by omega, by go_num, Lib.hid (by rw [H.out, HD.out, GD.out, List.cons.injEq]; simp at hq; simp [hq]), hD.step _⟩
          case measure => simp [intOf]; omega
        · go_wp2_with fail
          go_quiet (fail)
          go_wp2
          go_ret
          exact ⟨ret_bool (decide_eq_false (by rw [H.out, HD.out, GD.out, List.cons.injEq]; simp at hq; simp [hq])).symm, hD.step _⟩
      · go_wp2
        go_ret
        exact ⟨ret_bool (decide_eq_true (by rw [H.out, drop_len _ _ (by omega), drop_len _ _ (by rw [← Hl.out]; omega)])).symm, hD⟩
  · have hne : ((xs.length : Int) != (ys.length : Int)) = true := by simp; omega
    have hxy : xs ≠ ys := fun e => hlen (by rw [e])
    go_enter Try.func116, Try.ntmps116
    go_wp2
    go_ret
    exact ⟨ret_bool (by simp [hxy]), Drew.refl _⟩
set_option maxHeartbeats 400000 in
set_option maxRecDepth 100000 in
theorem l00Same_any {l h l' h' : Nat} (v u : Value) (xs ys : List Int) (w : World) (hv : Ints w l h v xs) (hu : Ints w l' h' u ys) :
    Calls Try.prog 104 #[v, u] w fun e w' => e = .returned (.bool (decide (xs = ys))) ∧ Drew w w' := by
  obtain ⟨a, cap, rfl, hc1, hc2, hd⟩ := hv.out
  obtain ⟨a', cap', rfl, gc1, gc2, gd⟩ := hu.out
  by_cases hlen : xs.length = ys.length
  · have hne : ((xs.length : Int) != (ys.length : Int)) = false := by simp [hlen]
    have Hl := Lib.hid hlen
    clear hlen
    go_enter Try.func104, Try.ntmps104
    go_wp2_with fail
    go_loopw [5] (fun i wr => ∃ k : Nat, k ≤ xs.length ∧ i = .int .i64 k ∧ Hid (xs = ys ↔ xs.drop k = ys.drop k) ∧ Drew w wr) (fun i _ => xs.length - (intOf i).toNat)
    case atStart => exact ⟨0, Nat.zero_le _, rfl, Lib.hid (by simp), Drew.refl _⟩
    case round =>
      obtain ⟨k, hk, rfl, H, hD⟩ := hrel
      have hcw := hD.cell
      by_cases hlt : k < xs.length
      · have glt : k < ys.length := by rw [← Hl.out]; exact hlt
        have HD := Lib.hid (drop_cons xs k hlt)
        have GD := Lib.hid (drop_cons ys k glt)
        rcases hd with rfl | ⟨b, off, rfl, hb1, hb2, hb3, hcell⟩
        · simp at hlt
        rcases gd with rfl | ⟨b', off', rfl, gb1, gb2, gb3, gcell⟩
        · simp at glt
        have hck := hcell k hlt
        have gck := gcell k glt
        clear hcell gcell
        cases hq : (xs[k] != ys[k])
        · go_wp2_with fail
          go_quiet (fail)
          go_wp2
          go_roundw
          case rel => exact ⟨k + 1, by omega, by go_num, Lib.hid (by rw [H.out, HD.out, GD.out, List.cons.injEq]; simp at hq; simp [hq]), hD.step _⟩
          case measure => simp [intOf]; omega
        · go_wp2_with fail
          go_quiet (fail)
          go_wp2
          go_ret
          exact ⟨ret_bool (decide_eq_false (by rw [H.out, HD.out, GD.out, List.cons.injEq]; simp at hq; simp [hq])).symm, hD.step _⟩
      · go_wp2
        go_ret
        exact ⟨ret_bool (decide_eq_true (by rw [H.out, drop_len _ _ (by omega), drop_len _ _ (by rw [← Hl.out]; omega)])).symm, hD⟩
  · have hne : ((xs.length : Int) != (ys.length : Int)) = true := by simp; omega
    have hxy : xs ≠ ys := fun e => hlen (by rw [e])
    go_enter Try.func104, Try.ntmps104
    go_wp2
    go_ret
    exact ⟨ret_bool (by simp [hxy]), Drew.refl _⟩
set_option maxHeartbeats 1600000 in
set_option maxRecDepth 100000 in
theorem equalFunc_any {l h l' h' : Nat} (v u : Value) (xs ys : List (List Int)) (w : World) (hv : Intss w l h v xs) (hu : Intss w l' h' u ys) :
    Calls Try.prog 115 #[v, u, .func (.func 116) #[] #[]] w fun e w' => e = .returned (.bool (decide (xs = ys))) ∧ Drew w w' := by
  obtain ⟨a, cap, V, rfl, hc1, hc2, hV, hd⟩ := hv.out
  obtain ⟨a', cap', U, rfl, gc1, gc2, hU, gd⟩ := hu.out
  have HV := Lib.hid hV
  have HU := Lib.hid hU
  clear hV hU
  by_cases hlen : xs.length = ys.length
  · have hne : ((xs.length : Int) != (ys.length : Int)) = false := by simp [hlen]
    have Hl := Lib.hid hlen
    clear hlen
    go_enter Try.func115, Try.ntmps115
    go_wp2_with fail
    go_loopw [17] (fun i wr => ∃ k : Nat, k ≤ xs.length ∧ i = .int .i64 k ∧ Hid (xs = ys ↔ xs.drop k = ys.drop k) ∧ Drew w wr) (fun i _ => xs.length - (intOf i).toNat)
    case atStart => exact ⟨0, Nat.zero_le _, rfl, Lib.hid (by simp), Drew.refl _⟩
    case round =>
      obtain ⟨k, hk, rfl, H, hD⟩ := hrel
      have hcw := hD.cell
      by_cases hlt : k < xs.length
      · have glt : k < ys.length := by rw [← Hl.out]; exact hlt
        have HD := Lib.hid (drop_cons xs k hlt)
        have GD := Lib.hid (drop_cons ys k glt)
        rcases hd with hd | ⟨b, off, rfl, hb1, hb2, hb3, hcell⟩
        · rw [hd] at hlt; simp at hlt
        rcases gd with gd | ⟨b', off', rfl, gb1, gb2, gb3, gcell⟩
        · rw [gd] at glt; simp at glt
        have hck := hcell k hlt
        have gck := gcell k glt
        have hx := Lib.hid ((HV.out k hlt).drew hD)
        have hy := Lib.hid ((HU.out k glt).drew hD)
        rw [← hcw] at hck
        rw [← hcw] at gck
        clear hcell gcell hcw
        cases hq : decide (xs[k] = ys[k])
        · go_wp2_with fail
          refine (slicesEqual_any _ _ xs[k] ys[k] wr hx.out hy.out).mono ?_
          rintro e w2 ⟨rfl, hD2⟩
          rw [hq]
          go_wp2
          go_ret
          exact ⟨ret_bool (decide_eq_false (by rw [H.out, HD.out, GD.out, List.cons.injEq]; simp at hq; simp [hq])).symm, hD.trans hD2⟩
        · go_wp2_with fail
          refine (slicesEqual_any _ _ xs[k] ys[k] wr hx.out hy.out).mono ?_
          rintro e w2 ⟨rfl, hD2⟩
          rw [hq]
          go_wp2
          go_roundw
          case rel => exact ⟨k + 1, by omega, by go_num, Lib.hid (by rw [H.out, HD.out, GD.out, List.cons.injEq]; simp at hq; simp [hq]), hD.trans hD2⟩
          case measure => simp [intOf]; omega
      · go_wp2
        go_ret
        exact ⟨ret_bool (decide_eq_true (by rw [H.out, drop_len _ _ (by omega), drop_len _ _ (by rw [← Hl.out]; omega)])).symm, hD⟩
  · have hne : ((xs.length : Int) != (ys.length : Int)) = true := by simp; omega
    have hxy : xs ≠ ys := fun e => hlen (by rw [e])
    go_enter Try.func115, Try.ntmps115
    go_wp2
    go_ret
    exact ⟨ret_bool (by simp [hxy]), Drew.refl _⟩
theorem sameLists_any {l h l' h' : Nat} (v u : Value) (xs ys : List (List Int)) (w : World) (hv : Intss w l h v xs) (hu : Intss w l' h' u ys) :
    Calls Try.prog 83 #[v, u] w fun e w' => e = .returned (.bool (decide (xs = ys))) ∧ Drew w w' := by
  go_enter Try.func83, Try.ntmps83
  go_wp2_with fail
  refine (equalFunc_any v u xs ys w hv hu).mono ?_
  rintro e w2 ⟨rfl, hD⟩
  go_wp2
  go_ret
  exact ⟨rfl, hD⟩
def sameForm (f g : FormD) : Bool := decide (f = g)
theorem sameForm_eq (f g : FormD) : sameForm f g = ((f.letters == g.letters) && decide (f.clauses = g.clauses)) := by
  unfold sameForm
  rw [Bool.eq_iff_iff]
  cases f; cases g; simp
set_option maxHeartbeats 800000 in
set_option maxRecDepth 100000 in
theorem implSameForm_any (w : World) {l h l' h' : Nat} (v : Value) (f : FormD) (u : Value) (g : FormD) (hv : FormR w l h v f) (hh : h ≤ w.heap.size) (hz : SmallII f.clauses) (hu : FormR w l' h' u g) (hh' : h' ≤ w.heap.size) (hz' : SmallII g.clauses) :
    Calls Try.prog 26 #[v, u] w fun e w' => e = .returned (.bool (sameForm f g)) ∧ Below w.heap.size w w' := by
  obtain ⟨x, rfl, hx⟩ := hv.ex
  obtain ⟨y, rfl, hy⟩ := hu.ex
  obtain ⟨W, hW⟩ : ∃ W, W = (w.alloc (.cells #[.int .i64 f.letters, x] 26)).alloc (.cells #[.int .i64 g.letters, y] 26) := ⟨_, rfl⟩
  have hBW : Below w.heap.size w W := by rw [hW]; exact ((Below.refl _ _).alloc (Nat.le_refl _) _).alloc (by simp) _
  cases hq : (f.letters == g.letters)
  · go_enter Try.func26, Try.ntmps26
    go_wp2
    rw [← hW]
    go_ret
    exact ⟨ret_bool (by rw [sameForm_eq, hq, Bool.false_and]), hBW⟩
  · go_enter Try.func26, Try.ntmps26
    go_wp2_with fail
    rw [← hW]
    clear hW
    refine (sameLists_any _ _ _ _ W (hx.below hBW hh) (hy.below hBW hh')).mono ?_
    rintro e w2 ⟨rfl, hD⟩
    go_wp2
    go_ret
    exact ⟨ret_bool (by rw [sameForm_eq, hq, Bool.true_and]), hBW.trans (hD.below _)⟩
set_option maxHeartbeats 1600000 in
set_option maxRecDepth 100000 in
theorem specSameForm_any (w : World) {l h l' h' : Nat} (v : Value) (f : FormD) (u : Value) (g : FormD) (hv : FormR w l h v f) (hh : h ≤ w.heap.size) (hz : SmallII f.clauses) (hu : FormR w l' h' u g) (hh' : h' ≤ w.heap.size) (hz' : SmallII g.clauses) :
    Calls Try.prog 45 #[v, u] w fun e w' => e = .returned (.bool (sameForm f g)) ∧ Below w.heap.size w w' := by
  obtain ⟨x, rfl, hx⟩ := hv.ex
  obtain ⟨y, rfl, hy⟩ := hu.ex
  obtain ⟨W, hW⟩ : ∃ W, W = (w.alloc (.cells #[.int .i64 f.letters, x] 26)).alloc (.cells #[.int .i64 g.letters, y] 26) := ⟨_, rfl⟩
  have hBW : Below w.heap.size w W := by rw [hW]; exact ((Below.refl _ _).alloc (Nat.le_refl _) _).alloc (by simp) _
  have bx1 : BoxF W w.heap.size f.letters x := by rw [hW]; exact (BoxF.new w _ _ _).below (alloc_below _ _) (by simp)
  have bx2 : BoxF W (w.heap.size + 1) g.letters y := by rw [hW]; have := BoxF.new (w.alloc (.cells #[.int .i64 f.letters, x] 26)) g.letters y 26; simpa using this
  have hx2 := hx.below hBW hh
  have hy2 := hy.below hBW hh'
  obtain ⟨a, cap, V, rfl, hc1, hc2, hV, hd⟩ := hx2.out
  obtain ⟨a', cap', U, rfl, gc1, gc2, hU, gd⟩ := hy2.out
  have HV := Lib.hid hV
  have HU := Lib.hid hU
  have q0 := bx1.c0
  have q1 := bx1.c1
  have q2 := bx2.c0
  have q3 := bx2.c1
  clear hV hU hx hy hv hu hx2 hy2
  cases hl : (f.letters != g.letters)
  case true =>
    go_enter Try.func45, Try.ntmps45
    go_wp2
    rw [← hW]
    go_ret
    exact ⟨ret_bool (by rw [sameForm_eq]; simp at hl; simp [hl]), hBW⟩
  have Hle : Hid ((f.letters == g.letters) = true) := by simpa [Hid] using hl
  by_cases hlen : f.clauses.length = g.clauses.length
  · have hne : ((f.clauses.length : Int) != (g.clauses.length : Int)) = false := by simp [hlen]
    have Hl := Lib.hid hlen
    clear hlen
    go_enter Try.func45, Try.ntmps45
    go_wp2_with fail
    rw [← hW]
    clear hW
    go_loopw [23] (fun i wr => ∃ k : Nat, k ≤ f.clauses.length ∧ i = .int .i64 k ∧ Hid (f.clauses = g.clauses ↔ f.clauses.drop k = g.clauses.drop k) ∧ Drew W wr) (fun i _ => f.clauses.length - (intOf i).toNat)
    case atStart => exact ⟨0, Nat.zero_le _, rfl, Lib.hid (by simp), Drew.refl _⟩
    case round =>
      obtain ⟨k, hk, rfl, H, hD⟩ := hrel
      have hcw := hD.cell
      by_cases hlt : k < f.clauses.length
      · have glt : k < g.clauses.length := by rw [← Hl.out]; exact hlt
        have HD := Lib.hid (drop_cons f.clauses k hlt)
        have GD := Lib.hid (drop_cons g.clauses k glt)
        rcases hd with hd | ⟨b, off, rfl, hb1, hb2, hb3, hcell⟩
        · rw [hd] at hlt; simp at hlt
        rcases gd with gd | ⟨b', off', rfl, gb1, gb2, gb3, gcell⟩
        · rw [gd] at glt; simp at glt
        have hck := hcell k hlt
        have gck := gcell k glt
        have hx := Lib.hid ((HV.out k hlt).drew hD)
        have hy := Lib.hid ((HU.out k glt).drew hD)
        clear hcell gcell
        cases hq : decide (f.clauses[k] = g.clauses[k])
        · go_wp2_with fail
          go_quiet ((go_at_call 104; exact quiet_drew (l00Same_any _ _ _ _ _ (hx.out.drewN _) (hy.out.drewN _))))
          go_wp2
          go_ret
          exact ⟨ret_bool (by rw [sameForm_eq, Hle.out, Bool.true_and]; exact (decide_eq_false (by rw [H.out, HD.out, GD.out, List.cons.injEq]; simp at hq; simp [hq])).symm), hBW.trans ((hD.step _).below _)⟩
        · go_wp2_with fail
          go_quiet ((go_at_call 104; exact quiet_drew (l00Same_any _ _ _ _ _ (hx.out.drewN _) (hy.out.drewN _))))
          go_wp2
          go_roundw
          case rel => exact ⟨k + 1, by omega, by go_num, Lib.hid (by rw [H.out, HD.out, GD.out, List.cons.injEq]; simp at hq; simp [hq]), hD.step _⟩
          case measure => simp [intOf]; omega
      · go_wp2
        go_ret
        exact ⟨ret_bool (by rw [sameForm_eq, Hle.out, Bool.true_and]; exact (decide_eq_true (by rw [H.out, drop_len _ _ (by omega), drop_len _ _ (by rw [← Hl.out]; omega)])).symm), hBW.trans (hD.below _)⟩
  · have hne : ((f.clauses.length : Int) != (g.clauses.length : Int)) = true := by simp; omega
    have hxy : f.clauses ≠ g.clauses := fun e => hlen (by rw [e])
    go_enter Try.func45, Try.ntmps45
    go_wp2
    rw [← hW]
    go_ret
    exact ⟨ret_bool (by rw [sameForm_eq]; simp [hxy]), hBW⟩
end Go.Proofs.Ytcpbgjnijhcpkaa

namespace Go.Proofs.Ytcpbgjnijhcpkaa
open Go.RowKit
set_option linter.unusedVariables false
set_option maxRecDepth 100000

theorem giveRest_nil_mem {kn c : List Int} (h : giveRest kn c = []) {l : Int} (hl : l ∈ c) : -l ∈ kn := by
  rw [giveRest, List.filter_eq_nil_iff] at h
  have h1 := h l hl
  rw [← hasI_iff]
  simpa using h1
theorem giveRest_one_mem {kn c : List Int} {y : Int} (h : giveRest kn c = [y]) {l : Int} (hl : l ∈ c) (hn : l ≠ y) : -l ∈ kn := by
  rw [← hasI_iff]
  refine Classical.byContradiction fun hh => hn ?_
  have h1 : l ∈ giveRest kn c := by
    rw [giveRest, List.mem_filter]
    exact ⟨hl, by simpa using hh⟩
  rw [h] at h1
  simpa using h1
/-- the reasons of what is known -/
structure UnitsWhy (cs : List (List Int)) (U : UnitD) : Prop where
  why : ∀ k, k < U.known.length → 0 ≤ U.why.getD k 0 → ∀ l ∈ cs.getD (U.why.getD k 0).toNat [], l ≠ U.known.getD k 0 → -l ∈ U.known
  wrong : 0 ≤ U.wrong → ∀ l ∈ cs.getD U.wrong.toNat [], -l ∈ U.known
theorem getD_app {α : Type} (a b : List α) (k : Nat) (d : α) (h : k < a.length) : (a ++ b).getD k d = a.getD k d := by
  simp only [List.getD, List.getElem?_append_left h]
theorem getD_app_last {α : Type} (a : List α) (x d : α) : (a ++ [x]).getD a.length d = x := by simp [List.getD]
theorem unitsGo_why {L : Int} {cs : List (List Int)} (hcl : ∀ c ∈ cs, ∀ x ∈ c, isLit L x = true) : ∀ (n : Nat) (kn by_ : List Int), by_.length = kn.length →
    (∀ k, k < kn.length → 0 ≤ by_.getD k 0 → ∀ l ∈ cs.getD (by_.getD k 0).toNat [], l ≠ kn.getD k 0 → -l ∈ kn) → UnitsWhy cs (unitsGo cs n kn by_) := by
  intro n
  induction n with
  | zero => intro kn by_ h1 h2; exact ⟨h2, fun h => absurd h (show ¬ (0 : Int) ≤ -1 by decide)⟩
  | succ n ih =>
    intro kn by_ h1 h2
    obtain ⟨s1, s2⟩ := scan_spec kn cs cs.length 0 (-1) 0 (by omega) (.inl (by omega))
    rw [unitsGo]
    split
    · rename_i h0
      refine ⟨h2, fun _ l hl => ?_⟩
      rcases s1 with s1 | ⟨j, hj, s1, s3, s4⟩
      · rw [s1] at h0; omega
      · have hl' : l ∈ cs.getD (scanU kn cs cs.length 0 (-1) 0).1.toNat [] := hl
        rw [s1, Int.toNat_natCast, getD_get hj] at hl'
        exact giveRest_nil_mem s4 hl'
    · split
      · exact ⟨h2, fun h => absurd h (show ¬ (0 : Int) ≤ -1 by decide)⟩
      · rename_i h4
        rcases s2 with ⟨s2, _⟩ | ⟨j, e, hj, hd, hr⟩
        · exact absurd s2 h4
        · refine ih _ _ (by simp [h1]) fun k hk hw l hl hne => ?_
          rw [List.length_append] at hk
          by_cases hkl : k < kn.length
          · rw [getD_app _ _ _ _ (by omega)] at hw hl
            rw [getD_app _ _ _ _ hkl] at hne
            exact List.mem_append.2 (.inl (h2 k hkl hw l hl hne))
          · have hk2 : k = kn.length := by simp at hk; omega
            rw [hk2, getD_app_last] at hne
            rw [hk2, ← h1, getD_app_last, e, Int.toNat_natCast, getD_get hj] at hl
            exact List.mem_append.2 (.inl (giveRest_one_mem hr hl hne))
theorem replicate_neg (n k : Nat) (h : k < n) : (List.replicate n (-1 : Int)).getD k 0 = -1 := by
  rw [List.getD_eq_getElem?_getD, List.getElem?_replicate, if_pos h]; rfl
theorem unitsF_why {L : Int} {cs : List (List Int)} {g : List Int} (hcl : ∀ c ∈ cs, ∀ x ∈ c, isLit L x = true) : UnitsWhy cs (unitsF cs g) :=
  unitsGo_why hcl _ _ _ (by simp) fun k hk hw => by rw [replicate_neg _ _ hk] at hw; omega

/-! ### Where an element lies first -/
def posI : List Int → Int → Nat
  | [], _ => 0
  | y :: r, x => if y = x then 0 else posI r x + 1
theorem posI_spec {L : List Int} {x : Int} (h : x ∈ L) : posI L x < L.length ∧ L.getD (posI L x) 0 = x ∧ ∀ j, j < posI L x → L.getD j 0 ≠ x := by
  induction L with
  | nil => simp at h
  | cons y r ih =>
    rw [posI]
    split
    · rename_i e; subst e
      exact ⟨by simp, by simp [List.getD], fun j hj => by omega⟩
    · rename_i hne
      have h' : x ∈ r := by
        rcases List.mem_cons.1 h with e | h'
        · exact absurd e.symm hne
        · exact h'
      obtain ⟨h1, h2, h3⟩ := ih h'
      refine ⟨by simp; omega, by simpa [List.getD] using h2, fun j hj => ?_⟩
      cases j with
      | zero => simpa [List.getD] using hne
      | succ j => simpa [List.getD] using h3 j (by omega)
theorem Cons.getD_ne {L : Int} {kn : List Int} (h : Cons L kn) {i j : Nat} (hi : i < kn.length) (hj : j < kn.length) (hne : i ≠ j) : absI (kn.getD i 0) ≠ absI (kn.getD j 0) := by
  have e : ∀ k (hk : k < kn.length), kn.getD k 0 = kn[k] := fun k hk => by simp [List.getD, hk]
  rw [e i hi, e j hj]
  rcases Nat.lt_or_gt_of_ne hne with h1 | h1
  · exact List.pairwise_iff_getElem.1 h.2 i j hi hj h1
  · exact Ne.symm (List.pairwise_iff_getElem.1 h.2 j i hj hi h1)

/-! ### The literals that are looked at -/
def hasL (lk : List Int) (a : Int) : Bool := lk.any fun y => absI y == a
def learnAdd (x : Int) : List Int → List Int → List Int
  | lk, [] => lk
  | lk, l :: r => learnAdd x (if (l == -x) || hasI lk l then lk else lk ++ [l]) r
def learnGo (cs : List (List Int)) (U : UnitD) : Nat → Nat → List Int → List Int → List Int
  | 0, _, _, out => out
  | n + 1, i, lk, out =>
    if i < lk.length then
      if U.why.getD (posI U.known (-(lk.getD i 0))) 0 < 0 then learnGo cs U n (i + 1) lk (out ++ [lk.getD i 0])
      else learnGo cs U n (i + 1) (learnAdd (lk.getD i 0) lk (cs.getD (U.why.getD (posI U.known (-(lk.getD i 0))) 0).toNat [])) out
    else out
def learnOut (cs : List (List Int)) (U : UnitD) : List Int := learnGo cs U 11 0 (cs.getD U.wrong.toNat []) []
def learnF (f : FormD) (g : List Int) : List Int × Bool :=
  if validForm f && litsGo f.letters [] g then
    if (unitsF f.clauses g).wrong < 0 then ([], false) else (srtL (learnOut f.clauses (unitsF f.clauses g)), true)
  else ([], false)
structure LkOk (L : Int) (kn lk : List Int) : Prop where
  opp : ∀ l ∈ lk, -l ∈ kn
  cons : Cons L lk
theorem known_letter {L : Int} {kn : List Int} (h : Cons L kn) {x y : Int} (hx : -x ∈ kn) (hy : -y ∈ kn) (e : absI x = absI y) : x = y := by
  rcases (absI_eq x y).1 e with e | e
  · exact e
  · subst e
    exact absurd (show False from h.not_both hy hx) id
section
variable {L : Int} {kn lk : List Int}
theorem LkOk.snoc (hk : Cons L kn) (h : LkOk L kn lk) {l : Int} (hl : -l ∈ kn) (hn : hasI lk l = false) : LkOk L kn (lk ++ [l]) := by
  refine ⟨fun y hy => ?_, h.cons.snoc ?_ ((hasI_false _ _).1 hn) fun hm => ?_⟩
  · rcases List.mem_append.1 hy with hy | hy
    · exact h.opp y hy
    · rw [List.mem_singleton] at hy; rw [hy]; exact hl
  · have h1 := isLit_neg (hk.1 _ hl); rwa [Int.neg_neg] at h1
  · have h1 := h.opp _ hm
    exact hk.not_both hl h1
theorem LkOk.seen (hk : Cons L kn) (h : LkOk L kn lk) {l : Int} (hl : -l ∈ kn) : hasL lk (absI l) = hasI lk l := by
  have h1 : hasL lk (absI l) = true ↔ hasI lk l = true := by
    rw [hasI_iff, hasL, List.any_eq_true]
    constructor
    · rintro ⟨y, hy, e⟩
      have e' : absI y = absI l := by simpa using e
      rw [known_letter hk hl (h.opp y hy) e'.symm]; exact hy
    · intro hm; exact ⟨l, hm, by simp⟩
  cases h2 : hasI lk l
  · cases h3 : hasL lk (absI l)
    · rfl
    · rw [h1.1 h3] at h2; cases h2
  · exact h1.2 h2
end
/-- the clause that is looked through may be put behind -/
def OppOk (kn : List Int) (x : Int) (c : List Int) : Prop := ∀ l ∈ c, l ≠ -x → -l ∈ kn
theorem learnAdd_ok {L : Int} {kn : List Int} (hk : Cons L kn) {x : Int} (c : List Int) : ∀ lk, LkOk L kn lk → OppOk kn x c → LkOk L kn (learnAdd x lk c) := by
  induction c with
  | nil => intro lk h _; exact h
  | cons l r ih =>
    intro lk h ho
    rw [learnAdd]
    refine ih _ ?_ fun y hy => ho y (List.mem_cons_of_mem _ hy)
    split
    · exact h
    · rename_i hn
      have hn' : ((l == -x) || hasI lk l) = false := by simpa using hn
      rw [Bool.or_eq_false_iff] at hn'
      exact h.snoc hk (ho l (by simp) (by simpa using hn'.1)) hn'.2
theorem learnAdd_pre (x : Int) (c : List Int) : ∀ lk, ∃ t, learnAdd x lk c = lk ++ t := by
  induction c with
  | nil => intro lk; exact ⟨[], by simp [learnAdd]⟩
  | cons l r ih =>
    intro lk
    rw [learnAdd]
    obtain ⟨t, ht⟩ := ih (if (l == -x) || hasI lk l then lk else lk ++ [l])
    rw [ht]
    split
    · exact ⟨t, rfl⟩
    · exact ⟨l :: t, by simp⟩
/-- how it stands at a round -/
structure LearnInv (L : Int) (kn lk : List Int) (i : Nat) (out : List Int) : Prop where
  ok : LkOk L kn lk
  le : i ≤ lk.length
  sub : out.Sublist (lk.take i)
section
variable {L : Int} {kn lk out : List Int} {i : Nat}
theorem LearnInv.dist (h : LearnInv L kn lk i out) : Cons L out := ⟨fun x hx => h.ok.cons.1 x (List.mem_of_mem_take (h.sub.subset hx)), (h.ok.cons.2.sublist (List.take_sublist _ _)).sublist h.sub⟩
theorem LearnInv.take (h : LearnInv L kn lk i out) (hi : i < lk.length) : LearnInv L kn lk (i + 1) (out ++ [lk.getD i 0]) := by
  refine ⟨h.ok, hi, ?_⟩
  have e : lk.getD i 0 = lk[i] := by simp [List.getD, hi]
  rw [e, List.take_succ_eq_append_getElem hi]
  exact List.Sublist.append h.sub (List.Sublist.refl _)
theorem LearnInv.add (hk : Cons L kn) (h : LearnInv L kn lk i out) (hi : i < lk.length) {x : Int} {c : List Int} (ho : OppOk kn x c) : LearnInv L kn (learnAdd x lk c) (i + 1) out := by
  obtain ⟨t, ht⟩ := learnAdd_pre x c lk
  refine ⟨learnAdd_ok hk c lk h.ok ho, by rw [ht, List.length_append]; omega, ?_⟩
  rw [ht, List.take_append_of_le_length hi]
  rw [List.take_succ_eq_append_getElem hi]
  exact h.sub.trans (List.sublist_append_left _ _)
theorem LearnInv.fresh (h : LearnInv L kn lk i out) (hi : i < lk.length) : ∀ y ∈ out, absI y ≠ absI (lk.getD i 0) := by
  intro y hy
  obtain ⟨k, hk, e⟩ := List.mem_iff_getElem.1 (h.sub.subset hy)
  rw [List.length_take] at hk
  have e2 : y = lk.getD k 0 := by rw [← e, List.getElem_take]; simp [List.getD, show k < lk.length by omega]
  rw [e2]
  exact h.ok.cons.getD_ne (by omega) hi (by omega)
end
theorem learn_take {cs : List (List Int)} {U : UnitD} {i : Nat} {lk out : List Int} (h11 : lk.length ≤ 10) (hi : i < lk.length) (hw : U.why.getD (posI U.known (-(lk.getD i 0))) 0 < 0) :
    learnGo cs U (11 - i) i lk out = learnGo cs U (11 - (i + 1)) (i + 1) lk (out ++ [lk.getD i 0]) := by
  rw [show 11 - i = (11 - (i + 1)) + 1 by omega, learnGo, if_pos hi, if_pos hw]
theorem learn_add {cs : List (List Int)} {U : UnitD} {i : Nat} {lk out : List Int} (h11 : lk.length ≤ 10) (hi : i < lk.length) (hw : ¬ U.why.getD (posI U.known (-(lk.getD i 0))) 0 < 0) :
    learnGo cs U (11 - i) i lk out = learnGo cs U (11 - (i + 1)) (i + 1) (learnAdd (lk.getD i 0) lk (cs.getD (U.why.getD (posI U.known (-(lk.getD i 0))) 0).toNat [])) out := by
  rw [show 11 - i = (11 - (i + 1)) + 1 by omega, learnGo, if_pos hi, if_neg hw]
theorem learn_end {cs : List (List Int)} {U : UnitD} {n i : Nat} {lk out : List Int} (hi : ¬ i < lk.length) : learnGo cs U n i lk out = out := by
  cases n with
  | zero => rfl
  | succ n => rw [learnGo, if_neg hi]
theorem srtL_put {out : List Int} {x : Int} (hr : Dist out) (hf : ∀ y ∈ out, absI y ≠ absI x) : joinN (srtL out) x = (srtL (out ++ [x]), true) := by
  rw [joinN_no fun y hy => hf y ((srtL_mem out y).1 hy), srtL_snoc]
/-- the clause of a known literal that was not given -/
theorem why_clause {L : Int} {cs : List (List Int)} {g : List Int} {U : UnitD} (hu : UnitsOk L cs g U) (hy : UnitsWhy cs U) {x : Int} (hx : -x ∈ U.known) (h0 : ¬ U.why.getD (posI U.known (-x)) 0 < 0) :
    ∃ j, ∃ h : j < cs.length, U.why.getD (posI U.known (-x)) 0 = (j : Int) ∧ OppOk U.known x cs[j] := by
  obtain ⟨p1, p2, p3⟩ := posI_spec hx
  have hlt : posI U.known (-x) < U.why.length := by rw [hu.len]; exact p1
  have hm : U.why.getD (posI U.known (-x)) 0 ∈ U.why := by simp [List.getD, hlt]
  have hr := hu.why _ hm
  obtain ⟨j, hj⟩ := Int.eq_ofNat_of_zero_le (show 0 ≤ U.why.getD (posI U.known (-x)) 0 by omega)
  have hjl : j < cs.length := by omega
  refine ⟨j, hjl, hj, fun l hl hne => ?_⟩
  refine hy.why _ p1 (by omega) l ?_ (by rw [p2]; exact hne)
  rw [hj, Int.toNat_natCast, getD_get hjl]; exact hl
end Go.Proofs.Ytcpbgjnijhcpkaa

