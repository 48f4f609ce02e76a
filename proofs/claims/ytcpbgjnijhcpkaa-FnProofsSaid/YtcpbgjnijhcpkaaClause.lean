/-
  Contracts of IsClause, in the reference and in the program, and of what it calls.
-/
import Derived.Test.YtcpbgjnijhcpkaaNum
import Derived.Test.YtcpbgjnijhcpkaaBool
import Derived.Deep.RegionWith
namespace Go.Proofs.Ytcpbgjnijhcpkaa
open Go.RowKit
set_option linter.unusedVariables false
set_option maxRecDepth 100000

def absI (x : Int) : Int := if x < 0 then -x else x
def isLit (L x : Int) : Bool := (x != 0) && inB (-L) L x
def risesFrom (L : Int) : Int → List Int → Bool
  | _, [] => true
  | p, x :: r => isLit L x && decide (p < absI x) && risesFrom L (absI x) r
def isClause (L : Int) (zs : List Int) : Bool := inB 1 10 L && risesFrom L 0 zs
def litsGo (L : Int) : List Int → List Int → Bool
  | _, [] => true
  | seen, x :: r => isLit L x && !seen.contains (absI x) && litsGo L (absI x :: seen) r
def nonDec : List Int → Bool
  | x :: y :: r => decide (absI x ≤ absI y) && nonDec (y :: r)
  | _ => true

theorem isLit_iff {L x : Int} : isLit L x = true ↔ x ≠ 0 ∧ -L ≤ x ∧ x ≤ L := by simp [isLit, inB]
theorem absI_pos {x : Int} (h : x ≠ 0) : 0 < absI x := by unfold absI; split <;> omega
theorem absI_le {L x : Int} (h : isLit L x = true) : 0 < absI x ∧ absI x ≤ L := by
  obtain ⟨h0, h1, h2⟩ := isLit_iff.1 h
  unfold absI; split <;> omega
theorem rises_iff (L p : Int) (zs : List Int) : risesFrom L p zs = true ↔ (∀ x ∈ zs, isLit L x = true) ∧ zs.Pairwise (fun x y => absI x < absI y) ∧ ∀ x ∈ zs, p < absI x := by
  induction zs generalizing p with
  | nil => simp [risesFrom]
  | cons a r ih =>
    simp only [risesFrom, Bool.and_eq_true, decide_eq_true_eq, ih, List.mem_cons, forall_eq_or_imp, List.pairwise_cons]
    constructor
    · rintro ⟨⟨h1, h2⟩, h3, h4, h5⟩
      exact ⟨⟨h1, h3⟩, ⟨h5, h4⟩, h2, fun x hx => by have := h5 x hx; omega⟩
    · rintro ⟨⟨h1, h3⟩, ⟨h5, h4⟩, h2, h6⟩
      exact ⟨⟨h1, h2⟩, h3, h4, h5⟩
theorem lits_iff (L : Int) (seen zs : List Int) : litsGo L seen zs = true ↔ (∀ x ∈ zs, isLit L x = true) ∧ zs.Pairwise (fun x y => absI x ≠ absI y) ∧ ∀ x ∈ zs, absI x ∉ seen := by
  induction zs generalizing seen with
  | nil => simp [litsGo]
  | cons a r ih =>
    simp only [litsGo, Bool.and_eq_true, ih, List.mem_cons, forall_eq_or_imp, List.pairwise_cons, Bool.not_eq_true', List.contains_eq_mem, decide_eq_false_iff_not, not_or]
    constructor
    · rintro ⟨⟨h1, h2⟩, h3, h4, h5⟩
      exact ⟨⟨h1, h3⟩, ⟨fun x hx e => (h5 x hx).1 e.symm, h4⟩, h2, fun x hx => (h5 x hx).2⟩
    · rintro ⟨⟨h1, h3⟩, ⟨h5, h4⟩, h2, h6⟩
      exact ⟨⟨h1, h2⟩, h3, h4, fun x hx => ⟨fun e => h5 x hx e.symm, h6 x hx⟩⟩
theorem nonDec_iff (zs : List Int) : nonDec zs = true ↔ zs.Pairwise (fun x y => absI x ≤ absI y) := by
  induction zs with
  | nil => simp [nonDec]
  | cons a r ih =>
    cases r with
    | nil => simp [nonDec]
    | cons b r =>
      rw [nonDec, Bool.and_eq_true, decide_eq_true_eq, ih, List.pairwise_cons (a := a)]
      constructor
      · rintro ⟨h1, h2⟩
        refine ⟨fun x hx => ?_, h2⟩
        rcases List.mem_cons.1 hx with rfl | hx
        · exact h1
        · have := (List.pairwise_cons.1 h2).1 x hx; omega
      · rintro ⟨h1, h2⟩
        exact ⟨h1 b (by simp), h2⟩
theorem pairwise_lt_iff (zs : List Int) : zs.Pairwise (fun x y => absI x < absI y) ↔ zs.Pairwise (fun x y => absI x ≠ absI y) ∧ zs.Pairwise (fun x y => absI x ≤ absI y) := by
  induction zs with
  | nil => simp
  | cons a r ih =>
    simp only [List.pairwise_cons, ih]
    constructor
    · rintro ⟨h1, h2, h3⟩
      exact ⟨⟨fun x hx => by have := h1 x hx; omega, h2⟩, fun x hx => by have := h1 x hx; omega, h3⟩
    · rintro ⟨⟨h1, h2⟩, h3, h4⟩
      exact ⟨fun x hx => by have := h1 x hx; have := h3 x hx; omega, h2, h4⟩
theorem clause_law (L : Int) (zs : List Int) : isClause L zs = (inB 1 10 L && litsGo L [] zs && nonDec zs) := by
  rw [Bool.eq_iff_iff]
  simp only [isClause, Bool.and_eq_true, rises_iff, lits_iff, nonDec_iff, pairwise_lt_iff, and_assoc]
  constructor
  · rintro ⟨h1, h2, h3, h4, h5⟩
    exact ⟨h1, h2, h3, by simp, h4⟩
  · rintro ⟨h1, h2, h3, h4, h5⟩
    exact ⟨h1, h2, h3, h5, fun x hx => (absI_le (h2 x hx)).1⟩
theorem letterOf_any (x : Int) (h1 : -9223372036854775807 ≤ x) (h2 : x ≤ 9223372036854775807) (w : World) :
    Calls Try.prog 73 #[.int .i64 x] w fun e w' => e = .returned (.int .i64 (absI x)) ∧ w = w' := by
  go_enter Try.func73, Try.ntmps73
  go_wp2
  all_goals
    go_ret
    exact ⟨ret_int (by unfold absI; (repeat' split) <;> omega), rfl⟩
theorem l05Letter_any (x : Int) (h1 : -9223372036854775807 ≤ x) (h2 : x ≤ 9223372036854775807) (w : World) :
    Calls Try.prog 69 #[.int .i64 x] w fun e w' => e = .returned (.int .i64 (absI x)) ∧ w = w' := by
  go_enter Try.func69, Try.ntmps69
  go_wp2
  all_goals
    go_ret
    exact ⟨ret_int (by unfold absI; (repeat' split) <;> omega), rfl⟩
theorem isLetterCount_any (L : Int) (w : World) :
    Calls Try.prog 71 #[.int .i64 L] w fun e w' => e = .returned (.bool (inB 1 10 L)) ∧ w = w' := by
  go_enter Try.func71, Try.ntmps71
  go_wp2_with (go_at_call 93; refine (within_any _ _ _ _).mono ?_; rintro e w' ⟨rfl, rfl⟩)
  go_ret
  exact ⟨rfl, rfl⟩
theorem l05Letters_any (L : Int) (w : World) :
    Calls Try.prog 97 #[.int .i64 L] w fun e w' => e = .returned (.bool (inB 1 10 L)) ∧ w = w' := by
  go_enter Try.func97, Try.ntmps97
  go_wp2_with (go_at_call 98; refine (l00In_any _ _ _ _).mono ?_; rintro e w' ⟨rfl, rfl⟩)
  go_ret
  exact ⟨rfl, rfl⟩
theorem isLiteral_any (L x : Int) (hL : 1 ≤ L ∧ L ≤ 10) (w : World) :
    Calls Try.prog 72 #[.int .i64 L, .int .i64 x] w fun e w' => e = .returned (.bool (isLit L x)) ∧ w = w' := by
  cases h0 : (x != 0) <;> cases h1 : inB (-L) L x <;>
  · go_enter Try.func72, Try.ntmps72
    go_wp2_with (go_at_call 93; refine (within_any _ _ _ _).mono ?_; rintro e w' ⟨rfl, rfl⟩)
    go_ret
    exact ⟨ret_bool (by simp [isLit, *]), rfl⟩
def prevOf (zs : List Int) (k : Nat) : Int := if k = 0 then 0 else absI (zs.getD (k - 1) 0)
theorem prevOf_succ (zs : List Int) (k : Nat) (h : k < zs.length) : prevOf zs (k + 1) = absI zs[k] := by simp [prevOf, h]
theorem prevOf_zero (zs : List Int) (k : Nat) (h : ¬ 0 < k) : prevOf zs k = 0 := by unfold prevOf; rw [if_pos (by omega)]
theorem prevOf_pos (zs : List Int) (k : Nat) (h0 : 0 < k) (h : k - 1 < zs.length) : prevOf zs k = absI zs[k - 1] := by
  unfold prevOf; rw [if_neg (by omega)]; simp [h]
set_option maxHeartbeats 800000 in
set_option maxRecDepth 100000 in
theorem isClause_any (w : World) (L : Int) {l h : Nat} (v : Value) (zs : List Int) (kL : I64 L) (hv : Ints w l h v zs) (hh : h ≤ w.heap.size) (hz : zs.length ≤ 1048576) :
    Calls Try.prog 19 #[.int .i64 L, v] w fun e w' => e = .returned (.bool (isClause L zs)) ∧ w = w' := by
  obtain ⟨a, cap, rfl, hc1, hc2, hd⟩ := hv.out
  cases hL : inB 1 10 L
  · go_enter Try.func19, Try.ntmps19
    go_wp2_with (go_at_call 71; refine (isLetterCount_any _ _).mono ?_; rintro e w' ⟨rfl, rfl⟩)
    go_ret
    exact ⟨ret_bool (by rw [isClause, hL, Bool.false_and]), rfl⟩
  · have bL := inB_true hL
    have HE := Lib.hid (show isClause L zs = risesFrom L 0 zs by rw [isClause, hL, Bool.true_and])
    go_enter Try.func19, Try.ntmps19
    go_wp2_with (go_at_call 71; refine (isLetterCount_any _ _).mono ?_; rintro e w' ⟨rfl, rfl⟩)
    go_loop [12] (fun i => ∃ k : Nat, k ≤ zs.length ∧ i = .int .i64 k ∧ Hid (risesFrom L (prevOf zs k) (zs.drop k) = risesFrom L 0 zs) ∧ Hid (∀ x ∈ zs.take k, isLit L x = true)) (fun i => zs.length - (intOf i).toNat)
    case atStart => exact ⟨0, Nat.zero_le _, rfl, Lib.hid rfl, Lib.hid (by simp)⟩
    case round =>
      obtain ⟨k, hk, rfl, H, HA⟩ := hrel
      by_cases hlt : k < zs.length
      · have HD := Lib.hid (drop_cons zs k hlt)
        have HT := Lib.hid (show zs.take (k + 1) = zs.take k ++ [zs[k]] from List.take_succ_eq_append_getElem hlt)
        rcases hd with rfl | ⟨b, off, rfl, hb1, hb2, hb3, hcell⟩
        · simp at hlt
        have hck := hcell k hlt
        cases hin : isLit L zs[k]
        · clear hcell
          go_wp2_with (go_at_call 72; refine (isLiteral_any _ _ bL _).mono ?_; rintro e w' ⟨rfl, rfl⟩)
          go_ret
          exact ⟨ret_bool (by rw [HE.out, ← H.out, HD.out, risesFrom, hin, Bool.false_and, Bool.false_and]), rfl⟩
        · have hx := isLit_iff.1 hin
          have hx1 := hx.2.1
          have hx2 := hx.2.2
          clear hx
          by_cases hk0 : 0 < k
          · have hlt' : k - 1 < zs.length := by omega
            have hckp := hcell (k - 1) hlt'
            clear hcell
            have hy := isLit_iff.1 (HA.out zs[k - 1] (List.mem_take_iff_getElem.2 ⟨k - 1, by omega, rfl⟩))
            have hy1 := hy.2.1
            have hy2 := hy.2.2
            clear hy
            have HP := Lib.hid (prevOf_pos zs k hk0 hlt')
            cases hq : decide (absI zs[k] ≤ absI zs[k - 1])
            · go_wp2_with (first | (go_at_call 72; refine (isLiteral_any _ _ bL _).mono ?_; rintro e w' ⟨rfl, rfl⟩) | (go_at_call 73; refine (letterOf_any _ (by omega) (by omega) _).mono ?_; rintro e w' ⟨rfl, rfl⟩))
              go_round
              case rel => exact ⟨k + 1, by omega, by go_num, Lib.hid (by rw [← H.out, HD.out, prevOf_succ _ _ hlt, risesFrom, hin, HP.out, show decide (absI zs[k - 1] < absI zs[k]) = true by simp at hq ⊢; omega]; simp), Lib.hid (by rw [HT.out]; simp only [List.mem_append, List.mem_singleton]; rintro x (hx | rfl); exact HA.out x hx; exact hin)⟩
              case measure => simp [intOf]; omega
            · go_wp2_with (first | (go_at_call 72; refine (isLiteral_any _ _ bL _).mono ?_; rintro e w' ⟨rfl, rfl⟩) | (go_at_call 73; refine (letterOf_any _ (by omega) (by omega) _).mono ?_; rintro e w' ⟨rfl, rfl⟩))
              go_ret
              exact ⟨ret_bool (by rw [HE.out, ← H.out, HD.out, risesFrom, HP.out, show decide (absI zs[k - 1] < absI zs[k]) = false by simp at hq ⊢; omega]; simp), rfl⟩
          · clear hcell
            have HP := Lib.hid (prevOf_zero zs k hk0)
            go_wp2_with (go_at_call 72; refine (isLiteral_any _ _ bL _).mono ?_; rintro e w' ⟨rfl, rfl⟩)
            go_round
            case rel => exact ⟨k + 1, by omega, by go_num, Lib.hid (by rw [← H.out, HD.out, prevOf_succ _ _ hlt, risesFrom, hin, HP.out, show decide (0 < absI zs[k]) = true by have := (absI_le hin).1; simp; omega]; simp), Lib.hid (by rw [HT.out]; simp only [List.mem_append, List.mem_singleton]; rintro x (hx | rfl); exact HA.out x hx; exact hin)⟩
            case measure => simp [intOf]; omega
      · go_wp2
        go_ret
        exact ⟨ret_bool (by rw [HE.out, ← H.out, drop_len _ _ (by omega), risesFrom]), rfl⟩
theorem implIsClause_any (w : World) (L : Int) {l h : Nat} (v : Value) (zs : List Int) (kL : I64 L) (hv : Ints w l h v zs) (hh : h ≤ w.heap.size) (hz : zs.length ≤ 1048576) :
    Calls Try.prog 19 #[.int .i64 L, v] w fun e w' => e = .returned (.bool (isClause L zs)) ∧ Below w.heap.size w w' :=
  (isClause_any w L v zs kL hv hh hz).mono fun e w' ⟨h1, h2⟩ => ⟨h1, h2 ▸ Below.refl _ _⟩
theorem l05Lits_made (w : World) : ∀ wx : World, (Instr.makeSlice 40 (.int .i64 11) (.int .i64 11)).run Try.prog wx = .ok (.slice (some ⟨wx.heap.size, 0, none⟩) 11 11) (wx.alloc (.cells (madeCells #[Value.bool false] 11) 4)) := by
  intro wx
  obtain ⟨i0, hi, hz0, hz1, hz2⟩ := info_parts info_bool
  have := run_make (P := Try.prog) wx 40 4 i0 (.bool false) Try.underlying40 hi hz0 .i64 .i64 11 11 (by omega) (by omega) (by rw [hz2]; omega) (by omega)
  rw [hz1] at this
  exact this
set_option maxHeartbeats 1600000 in
set_option maxRecDepth 100000 in
theorem l05Lits_any (L : Int) {l h : Nat} (v : Value) (zs : List Int) (w : World) (bL : 1 ≤ L ∧ L ≤ 10) (hv : Ints w l h v zs) (hh : h ≤ w.heap.size) :
    Calls Try.prog 68 #[.int .i64 L, v] w fun e w' => e = .returned (.bool (litsGo L [] zs)) ∧ Below w.heap.size w w' := by
  obtain ⟨a, cap, rfl, hc1, hc2, hd⟩ := hv.out
  have hmk := l05Lits_made w
  have hrow0 : RowB (w.alloc (.cells (madeCells #[Value.bool false] 11) 4)) w.heap.size w.heap.size 11 11 (List.replicate 11 false) :=
    RowB.made (World.ownsRow_lit w _ 11 (Nat.le_refl _) (by simp [maxLen]) (by simp [size_madeCells]))
  go_enter Try.func68, Try.ntmps68
  go_wp2_with fail
  go_loopw [10] (fun i wr => ∃ (k : Nat) (seen : List Int) (B : List Bool), k ≤ zs.length ∧ i = .int .i64 k ∧ Hid (litsGo L seen (zs.drop k) = litsGo L [] zs) ∧ Hid (∀ j : Nat, j < 11 → B.getD j false = seen.contains (j : Int)) ∧ RowB wr w.heap.size w.heap.size 11 11 B ∧ Below w.heap.size w wr) (fun i _ => zs.length - (intOf i).toNat)
  case atStart => exact ⟨0, [], List.replicate 11 false, Nat.zero_le _, rfl, Lib.hid rfl, Lib.hid (fun j _ => by rw [replicate_getD]; rfl), hrow0, (Below.refl _ _).alloc (Nat.le_refl _) _⟩
  case round =>
    clear hmk hrow0
    obtain ⟨k, seen, B, hk, rfl, H, HB, hrow, hb⟩ := hrel
    by_cases hlt : k < zs.length
    · have HD := Lib.hid (drop_cons zs k hlt)
      rcases hd with rfl | ⟨b, off, rfl, hb1, hb2, hb3, hcell⟩
      · simp at hlt
      have hck := hcell k hlt
      rw [← hb.cell (p := ⟨b, off + k, none⟩) (show b < w.heap.size by omega)] at hck
      clear hcell
      cases h1 : inB (-L) L zs[k]
      · have HO := Lib.hid (show isLit L zs[k] = false by simp [isLit, h1])
        go_wp2_with (go_at_call 98; refine (l00In_any _ _ _ _).mono ?_; rintro e w' ⟨rfl, rfl⟩)
        go_ret
        exact ⟨ret_bool (by rw [← H.out, HD.out, litsGo, HO.out]; rfl), hb⟩
      have b1 := inB_true h1
      cases h0 : (zs[k] == 0)
      case true =>
        have HO := Lib.hid (show isLit L zs[k] = false by have : zs[k] = 0 := by simpa using h0
                                                          simp [isLit, this])
        go_wp2_with (go_at_call 98; refine (l00In_any _ _ _ _).mono ?_; rintro e w' ⟨rfl, rfl⟩)
        go_ret
        exact ⟨ret_bool (by rw [← H.out, HD.out, litsGo, HO.out]; rfl), hb⟩
      have hlit : isLit L zs[k] = true := by rw [isLit, h1]; simp at h0; simp [h0]
      obtain ⟨A, hA⟩ := Int.eq_ofNat_of_zero_le (Int.le_of_lt (absI_le hlit).1)
      have hA2 : A < 11 := by have := (absI_le hlit).2; omega
      have hl5 := fun wx => l05Letter_any zs[k] (by omega) (by omega) wx
      rw [hA] at hl5
      have Hl5 := Lib.hid hl5
      have HAA := Lib.hid hA
      have Hlit := Lib.hid hlit
      clear hl5 hA hlit
      have hBA := hrow.cell hA2
      have hfA := hrow.frozen A
      cases hs : B.getD A false
      · rw [hs] at hBA
        go_wp2_with (first | (go_at_call 98; refine (l00In_any _ _ _ _).mono ?_; rintro e w' ⟨rfl, rfl⟩) | (go_at_call 69; refine (Hl5.out _).mono ?_; rintro e w' ⟨rfl, rfl⟩))
        go_roundw
        case rel =>
          refine ⟨k + 1, (A : Int) :: seen, _, by omega, by go_num, Lib.hid ?_, Lib.hid ?_, hrow.stored A true, hb.setCell (Nat.le_refl _) _⟩
          · rw [← H.out, HD.out, litsGo, Hlit.out, HAA.out, ← HB.out A hA2, hs]; simp
          · intro j hj
            have hL := hrow.length
            rw [List.contains_cons]
            by_cases e : j = A
            · subst e; simp [List.getD, hL, hA2]
            · rw [← HB.out j hj]
              have e' : ((j : Int) == (A : Int)) = false := by simp; omega
              rw [e', Bool.false_or]
              simp only [List.getD, List.getElem?_set_ne (show A ≠ j by omega)]
        case measure => simp [intOf]; omega
      · rw [hs] at hBA
        go_wp2_with (first | (go_at_call 98; refine (l00In_any _ _ _ _).mono ?_; rintro e w' ⟨rfl, rfl⟩) | (go_at_call 69; refine (Hl5.out _).mono ?_; rintro e w' ⟨rfl, rfl⟩))
        go_ret
        exact ⟨ret_bool (by rw [← H.out, HD.out, litsGo, HAA.out, ← HB.out A hA2, hs]; simp), hb⟩
    · go_wp2
      go_ret
      exact ⟨ret_bool (by rw [← H.out, drop_len _ _ (by omega), litsGo]), hb⟩
theorem litsGo_all {L : Int} {zs : List Int} (h : litsGo L [] zs = true) (x : Int) (hx : x ∈ zs) : isLit L x = true := ((lits_iff L [] zs).1 h).1 x hx
theorem nonDec_short (zs : List Int) (h : zs.length ≤ 1) : nonDec zs = true := by
  match zs, h with
  | [], _ => rfl
  | [x], _ => rfl
set_option maxHeartbeats 1600000 in
set_option maxRecDepth 100000 in
theorem l05Clause_any (w : World) (L : Int) {l h : Nat} (v : Value) (zs : List Int) (kL : I64 L) (hv : Ints w l h v zs) (hh : h ≤ w.heap.size) :
    Calls Try.prog 59 #[.int .i64 L, v] w fun e w' => e = .returned (.bool (isClause L zs)) ∧ Below w.heap.size w w' := by
  have HE := Lib.hid (clause_law L zs)
  cases hL : inB 1 10 L
  · go_enter Try.func59, Try.ntmps59
    go_wp2_with (go_at_call 97; refine (l05Letters_any _ _).mono ?_; rintro e w' ⟨rfl, rfl⟩)
    go_ret
    exact ⟨ret_bool (by rw [HE.out, hL, Bool.false_and, Bool.false_and]), Below.refl _ _⟩
  have bL := inB_true hL
  cases hg : litsGo L [] zs
  · go_enter Try.func59, Try.ntmps59
    go_wp2_with fail
    refine (l05Letters_any _ _).mono ?_
    rintro e w' ⟨rfl, rfl⟩
    go_wp2_with fail
    refine (l05Lits_any L v zs _ bL hv hh).mono ?_
    rintro e w1 ⟨rfl, hb⟩
    go_wp2
    go_ret
    exact ⟨ret_bool (by rw [HE.out, hg, Bool.and_false, Bool.false_and]), hb⟩
  go_enter Try.func59, Try.ntmps59
  go_wp2_with fail
  refine (l05Letters_any _ _).mono ?_
  rintro e w' ⟨rfl, rfl⟩
  go_wp2_with fail
  refine (l05Lits_any L v zs _ bL hv hh).mono ?_
  rintro e w1 ⟨rfl, hb⟩
  have hv1 := hv.below hb hh
  obtain ⟨a, cap, rfl, hc1, hc2, hd⟩ := hv1.out
  have HF := Lib.hid (show isClause L zs = nonDec zs by rw [HE.out, hL, hg, Bool.true_and, Bool.true_and])
  have HG := Lib.hid (fun x hx => litsGo_all hg x hx)
  go_wp2_with fail
  clear hg
  go_loopw [5] (fun i wr => ∃ k : Nat, 1 ≤ k ∧ i = .int .i64 k ∧ Hid (nonDec (zs.drop (k - 1)) = nonDec zs) ∧ Drew w1 wr ∧ (k ≤ zs.length ∨ zs.length = 0)) (fun i _ => zs.length - (intOf i).toNat)
  case atStart => exact ⟨1, Nat.le_refl _, rfl, Lib.hid (by simp), Drew.refl _, by omega⟩
  case round =>
    obtain ⟨k, hk1, rfl, H, hD, hk2⟩ := hrel
    have hcw := hD.cell
    by_cases hlt : k < zs.length
    · have hlt' : k - 1 < zs.length := by omega
      have HD := Lib.hid (drop_cons zs (k - 1) hlt')
      have HD2 := Lib.hid (drop_cons zs k hlt)
      rcases hd with rfl | ⟨b, off, rfl, hb1, hb2, hb3, hcell⟩
      · simp at hlt
      have hck := hcell k hlt
      have hckp := hcell (k - 1) hlt'
      clear hcell
      have hx := isLit_iff.1 (HG.out zs[k] (List.getElem_mem _))
      have hx1 := hx.2.1
      have hx2 := hx.2.2
      have hy := isLit_iff.1 (HG.out zs[k - 1] (List.getElem_mem _))
      have hy1 := hy.2.1
      have hy2 := hy.2.2
      clear hx hy
      have HS := Lib.hid (show nonDec (zs.drop (k - 1)) = (decide (absI zs[k - 1] ≤ absI zs[k]) && nonDec (zs.drop k)) by
        rw [HD.out, show k - 1 + 1 = k by omega, HD2.out, nonDec])
      have hwr : IntKind.i64.wrap ((k : Int) - 1) = (k : Int) - 1 := IntWalk.i64_in _ (by omega)
      have hk0 : (0 : Int) ≤ (k : Int) - 1 := by omega
      have hkn : ((k : Int) - 1).toNat = k - 1 := by omega
      have hkl : (k : Int) - 1 < (zs.length : Int) := by omega
      have hl1 := fun wx => l05Letter_any zs[k] (by omega) (by omega) wx
      have hl2 := fun wx => l05Letter_any zs[k - 1] (by omega) (by omega) wx
      have Hl1 := Lib.hid hl1
      have Hl2 := Lib.hid hl2
      clear hl1 hl2
      cases hq : decide (absI zs[k] < absI zs[k - 1])
      all_goals
        go_wp2_with fail
        go_quiet ((first | (with_reducible exact quiet_same (Hl1.out _)) | (with_reducible exact quiet_same (Hl2.out _))))
        clear hwr hk0 hkn hkl
        go_wp2
      · go_roundw
        case rel => exact ⟨k + 1, by omega, by go_num, Lib.hid (by rw [show k + 1 - 1 = k by omega, ← H.out, HS.out, show decide (absI zs[k - 1] ≤ absI zs[k]) = true by simp at hq ⊢; omega, Bool.true_and]), hD.step _, by omega⟩
        case measure => simp [intOf]; omega
      · go_ret
        exact ⟨ret_bool (by rw [HF.out, ← H.out, HS.out, show decide (absI zs[k - 1] ≤ absI zs[k]) = false by simp at hq ⊢; omega, Bool.false_and]), hb.trans ((hD.step _).below _)⟩
    · go_wp2
      go_ret
      exact ⟨ret_bool (by rw [HF.out, ← H.out, nonDec_short _ (by rw [List.length_drop]; omega)]), hb.trans (hD.below _)⟩
end Go.Proofs.Ytcpbgjnijhcpkaa
