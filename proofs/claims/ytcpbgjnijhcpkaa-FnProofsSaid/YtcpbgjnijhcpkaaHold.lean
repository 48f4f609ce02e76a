/-
  Whether literals, clauses and forms hold: contracts in the program (by a slice of values) and in the reference (by the number of the values).
-/
import Derived.Test.YtcpbgjnijhcpkaaFormA
import Derived.Deep.RegionHeld3
namespace Go.Proofs.Ytcpbgjnijhcpkaa
open Go.RowKit
set_option linter.unusedVariables false
set_option maxRecDepth 100000

/-- the bit of n at k -/
def bitN (n k : Nat) : Bool := decide (n / 2 ^ k % 2 = 1)
/-- the values with a number: the first one is its greatest digit -/
def valuesN (L n : Nat) : List Bool := (List.range L).map fun i => bitN n (L - 1 - i)
def litTrue (bs : List Bool) (x : Int) : Bool := (bs.getD ((absI x).toNat - 1) false) == decide (0 < x)
def clauseTrue (bs : List Bool) (c : List Int) : Bool := c.any (litTrue bs)
def heldN (bs : List Bool) (cs : List (List Int)) : Nat := cs.countP (clauseTrue bs)
def formTrue (bs : List Bool) (cs : List (List Int)) : Bool := decide (heldN bs cs = cs.length)
/-- literals of letters up to n -/
def Lits (n : Nat) (c : List Int) : Prop := ∀ x ∈ c, 0 < absI x ∧ absI x ≤ (n : Int)
def LitsAll (n : Nat) (cs : List (List Int)) : Prop := ∀ c ∈ cs, Lits n c
theorem lits_of_clause {L : Int} {n : Nat} (hn : L = n) {c : List Int} (h : isClause L c = true) : Lits n c := by
  intro x hx
  rw [clause_law] at h
  simp only [Bool.and_eq_true] at h
  have := absI_le (litsGo_all h.1.2 x hx)
  omega
theorem litsAll_of_valid {f : FormD} {n : Nat} (hn : f.letters = n) (h : validForm f = true) : LitsAll n f.clauses := fun c hc => lits_of_clause hn ((validForm_bounds h).2.2 c hc)
theorem valuesN_len (L n : Nat) : (valuesN L n).length = L := by simp [valuesN]
theorem valuesN_get (L n A : Nat) (h1 : 1 ≤ A) (h2 : A ≤ L) : (valuesN L n).getD (A - 1) false = bitN n (L - A) := by
  unfold valuesN
  rw [List.getD_eq_getElem?_getD, List.getElem?_map, List.getElem?_range (by omega)]
  simp only [Option.map_some, Option.getD_some]
  congr 1; omega
theorem beq_cast (a b : Nat) : ((a : Int) == (b : Int)) = decide (a = b) := by
  by_cases h : a = b
  · rw [h]; simp
  · have : (a : Int) ≠ b := by omega
    rw [decide_eq_false h]; exact beq_false_of_ne this
theorem heldN_le (bs : List Bool) (cs : List (List Int)) : heldN bs cs ≤ cs.length := List.countP_le_length
theorem bits_and_one (n k : Nat) (h : n < 4294967296) : bits .and .i64 ((n : Int) / 2 ^ k) 1 = if bitN n k then 1 else 0 := by
  have e : ((n : Int) / 2 ^ k) = ((n / 2 ^ k : Nat) : Int) := by simp
  have hl : n / 2 ^ k ≤ n := Nat.div_le_self _ _
  rw [e]
  generalize ha : n / 2 ^ k = a at *
  have h1 : (BitVec.ofInt 64 (a : Int)).toNat = a := by
    rw [BitVec.ofInt_natCast, BitVec.toNat_ofNat]; exact Nat.mod_eq_of_lt (by omega)
  show IntKind.i64.wrap ((BitVec.ofInt 64 (a : Int) &&& BitVec.ofInt 64 ((1 : Nat) : Int)).toNat : Int) = _
  have h2 : (BitVec.ofInt 64 ((1 : Nat) : Int)).toNat = 1 := rfl
  rw [BitVec.toNat_and, h1, h2, Nat.and_one_is_mod, IntWalk.i64_in _ (by omega)]
  unfold bitN
  rw [ha]
  by_cases hm : a % 2 = 1
  · simp [hm]
  · have : a % 2 = 0 := by omega
    simp [this]
theorem isTrue_any {l h : Nat} (v : Value) (bs : List Bool) (x : Int) (w : World) (hv : Bools w l h v bs) (h1 : 0 < absI x) (h2 : absI x ≤ (bs.length : Int)) (hz : bs.length ≤ 1048576) :
    Calls Try.prog 120 #[v, .int .i64 x] w fun e w' => e = .returned (.bool (litTrue bs x)) ∧ w = w' := by
  obtain ⟨a, cap, rfl, hc1, hc2, hd⟩ := hv.out
  obtain ⟨A, hA⟩ : ∃ A : Nat, absI x = (A : Int) + 1 := ⟨(absI x).toNat - 1, by omega⟩
  have hx : -9223372036854775807 ≤ x ∧ x ≤ 9223372036854775807 := by
    unfold absI at h2; split at h2 <;> omega
  have hl := fun wx => letterOf_any x hx.1 hx.2 wx
  rw [hA] at hl h2
  have Hl := Lib.hid hl
  have HT := Lib.hid (show litTrue bs x = ((bs.getD A false) == decide (0 < x)) by unfold litTrue; rw [hA]; congr 2)
  clear hl hA h1
  rcases hd with rfl | ⟨b, off, rfl, hb1, hb2, hb3, hcell⟩
  · simp at h2; omega
  have hck := hcell A (by omega)
  generalize bs.getD A false = B at *
  clear hcell
  cases B <;> by_cases hp : 0 < x
  all_goals
    go_enter Try.func120, Try.ntmps120
    go_wp2_with (go_at_call 73; refine (Hl.out _).mono ?_; rintro e w' ⟨rfl, rfl⟩)
    go_ret
    exact ⟨ret_bool (by rw [HT.out]; simp [hp]), rfl⟩
set_option maxHeartbeats 800000 in
set_option maxRecDepth 100000 in
theorem clauseHolds_any {l h l' h' : Nat} (u v : Value) (c : List Int) (bs : List Bool) (w : World) (hu : Ints w l h u c) (hv : Bools w l' h' v bs) (hl : Lits bs.length c) (hz : bs.length ≤ 1048576) :
    Calls Try.prog 90 #[u, v] w fun e w' => e = .returned (.bool (clauseTrue bs c)) ∧ w = w' := by
  obtain ⟨a, cap, rfl, hc1, hc2, hd⟩ := hu.out
  have HL := Lib.hid hl
  have HV := Lib.hid hv
  clear hl hv
  go_enter Try.func90, Try.ntmps90
  go_wp2_with fail
  go_loop [9] (fun i => ∃ k : Nat, k ≤ c.length ∧ i = .int .i64 k ∧ Hid ((c.drop k).any (litTrue bs) = c.any (litTrue bs))) (fun i => c.length - (intOf i).toNat)
  case atStart => exact ⟨0, Nat.zero_le _, rfl, Lib.hid rfl⟩
  case round =>
    obtain ⟨k, hk, rfl, H⟩ := hrel
    by_cases hlt : k < c.length
    · have HD := Lib.hid (drop_cons c k hlt)
      rcases hd with rfl | ⟨b, off, rfl, hb1, hb2, hb3, hcell⟩
      · simp at hlt
      have hck := hcell k hlt
      have hq := Lib.hid (HL.out c[k] (List.getElem_mem _))
      clear hcell
      cases hin : litTrue bs c[k]
      · go_wp2_with (go_at_call 120; refine (isTrue_any _ _ _ _ HV.out hq.out.1 hq.out.2 hz).mono ?_; rintro e w' ⟨rfl, rfl⟩)
        go_round
        case rel => exact ⟨k + 1, by omega, by go_num, Lib.hid (by rw [← H.out, HD.out, List.any_cons, hin, Bool.false_or])⟩
        case measure => simp [intOf]; omega
      · go_wp2_with (go_at_call 120; refine (isTrue_any _ _ _ _ HV.out hq.out.1 hq.out.2 hz).mono ?_; rintro e w' ⟨rfl, rfl⟩)
        go_ret
        exact ⟨ret_bool (by rw [clauseTrue, ← H.out, HD.out, List.any_cons, hin, Bool.true_or]), rfl⟩
    · go_wp2
      go_ret
      exact ⟨ret_bool (by rw [clauseTrue, ← H.out, drop_len _ _ (by omega)]; rfl), rfl⟩
set_option maxHeartbeats 800000 in
set_option maxRecDepth 100000 in
theorem held_any {l h l' h' : Nat} (u v : Value) (cs : List (List Int)) (bs : List Bool) (w : World) (hu : Intss w l h u cs) (hv : Bools w l' h' v bs) (hl : LitsAll bs.length cs) (hz : bs.length ≤ 1048576) (hn : cs.length ≤ 1048576) :
    Calls Try.prog 77 #[u, v] w fun e w' => e = .returned (.int .i64 (heldN bs cs)) ∧ w = w' := by
  obtain ⟨a, cap, V, rfl, hc1, hc2, hV, hd⟩ := hu.out
  have HL := Lib.hid hl
  have HV := Lib.hid hv
  have HU := Lib.hid hV
  clear hl hv hV
  go_enter Try.func77, Try.ntmps77
  go_wp2_with fail
  go_loop [5, 10] (fun c i => ∃ k m : Nat, k ≤ cs.length ∧ i = .int .i64 k ∧ c = .int .i64 m ∧ m ≤ k ∧ Hid (m + heldN bs (cs.drop k) = heldN bs cs)) (fun _ i => cs.length - (intOf i).toNat)
  case atStart => exact ⟨0, 0, Nat.zero_le _, rfl, rfl, Nat.le_refl _, Lib.hid (by simp)⟩
  case round =>
    obtain ⟨k, m, hk, rfl, rfl, hm, H⟩ := hrel
    by_cases hlt : k < cs.length
    · have HD := Lib.hid (drop_cons cs k hlt)
      rcases hd with hd | ⟨b, off, rfl, hb1, hb2, hb3, hcell⟩
      · rw [hd] at hlt; simp at hlt
      have hck := hcell k hlt
      have hx := Lib.hid (HU.out k hlt)
      have hq := Lib.hid (HL.out cs[k] (List.getElem_mem _))
      clear hcell
      cases hin : clauseTrue bs cs[k]
      · go_wp2_with (go_at_call 90; refine (clauseHolds_any _ _ _ _ _ hx.out HV.out hq.out hz).mono ?_; rintro e w' ⟨rfl, rfl⟩)
        go_round
        case rel => exact ⟨k + 1, m, by omega, by go_num, rfl, by omega, Lib.hid (by rw [← H.out, HD.out, heldN, heldN, List.countP_cons, hin]; simp)⟩
        case measure => simp [intOf]; omega
      · go_wp2_with (go_at_call 90; refine (clauseHolds_any _ _ _ _ _ hx.out HV.out hq.out hz).mono ?_; rintro e w' ⟨rfl, rfl⟩)
        go_round
        case rel => exact ⟨k + 1, m + 1, by omega, by go_num, by go_num, by omega, Lib.hid (by rw [← H.out, HD.out, heldN, heldN, List.countP_cons, hin]; simp; omega)⟩
        case measure => simp [intOf]; omega
    · go_wp2
      go_ret
      exact ⟨ret_int (by have := H.out; rw [drop_len _ _ (by omega)] at this; simp [heldN] at this; simp [heldN]; omega), rfl⟩
theorem l05True_any (L n : Nat) (x : Int) (w : World) (h1 : 0 < absI x) (h2 : absI x ≤ (L : Int)) (hL : L ≤ 10) (hn : n < 4294967296) :
    Calls Try.prog 118 #[.int .i64 L, .int .i64 n, .int .i64 x] w fun e w' => e = .returned (.bool (litTrue (valuesN L n) x)) ∧ w = w' := by
  obtain ⟨A, hA⟩ : ∃ A : Nat, absI x = (A : Int) := ⟨(absI x).toNat, by omega⟩
  have hx : -9223372036854775807 ≤ x ∧ x ≤ 9223372036854775807 := by
    unfold absI at h2; split at h2 <;> omega
  have hl := fun wx => l05Letter_any x hx.1 hx.2 wx
  rw [hA] at hl h2 h1
  have Hl := Lib.hid hl
  have HT := Lib.hid (show litTrue (valuesN L n) x = (bitN n (L - A) == decide (0 < x)) by
    unfold litTrue; rw [hA, Int.toNat_natCast, valuesN_get L n A (by omega) (by omega)])
  have hb : bits .and .i64 ((n : Int) / 2 ^ (L - A)) 1 = if bitN n (L - A) then 1 else 0 := bits_and_one n _ hn
  clear hl hA
  cases hB : bitN n (L - A) <;> by_cases hp : 0 < x
  all_goals
    rw [hB] at hb
    simp only [if_true, if_false, Bool.false_eq_true] at hb
    go_enter Try.func118, Try.ntmps118
    go_wp2_with (go_at_call 69; refine (Hl.out _).mono ?_; rintro e w' ⟨rfl, rfl⟩)
    go_ret
    exact ⟨ret_bool (by rw [HT.out, hB]; first | (simp [hp]; done) | (simp [hp, hb]; done)), rfl⟩
set_option maxHeartbeats 800000 in
set_option maxRecDepth 100000 in
theorem l05Holds_any {l h : Nat} (L n : Nat) (v : Value) (c : List Int) (w : World) (hv : Ints w l h v c) (hl : Lits L c) (hL : L ≤ 10) (hn : n < 4294967296) :
    Calls Try.prog 126 #[.int .i64 L, .int .i64 n, v] w fun e w' => e = .returned (.bool (clauseTrue (valuesN L n) c)) ∧ w = w' := by
  obtain ⟨a, cap, rfl, hc1, hc2, hd⟩ := hv.out
  have HL := Lib.hid hl
  clear hl
  go_enter Try.func126, Try.ntmps126
  go_wp2_with fail
  go_loop [10] (fun i => ∃ k : Nat, k ≤ c.length ∧ i = .int .i64 k ∧ Hid ((c.drop k).any (litTrue (valuesN L n)) = c.any (litTrue (valuesN L n)))) (fun i => c.length - (intOf i).toNat)
  case atStart => exact ⟨0, Nat.zero_le _, rfl, Lib.hid rfl⟩
  case round =>
    obtain ⟨k, hk, rfl, H⟩ := hrel
    by_cases hlt : k < c.length
    · have HD := Lib.hid (drop_cons c k hlt)
      rcases hd with rfl | ⟨b, off, rfl, hb1, hb2, hb3, hcell⟩
      · simp at hlt
      have hck := hcell k hlt
      have hq := Lib.hid (HL.out c[k] (List.getElem_mem _))
      clear hcell
      cases hin : litTrue (valuesN L n) c[k]
      · go_wp2_with (go_at_call 118; refine (l05True_any _ _ _ _ hq.out.1 hq.out.2 hL hn).mono ?_; rintro e w' ⟨rfl, rfl⟩)
        go_round
        case rel => exact ⟨k + 1, by omega, by go_num, Lib.hid (by rw [← H.out, HD.out, List.any_cons, hin, Bool.false_or])⟩
        case measure => simp [intOf]; omega
      · go_wp2_with (go_at_call 118; refine (l05True_any _ _ _ _ hq.out.1 hq.out.2 hL hn).mono ?_; rintro e w' ⟨rfl, rfl⟩)
        go_ret
        exact ⟨ret_bool (by rw [clauseTrue, ← H.out, HD.out, List.any_cons, hin, Bool.true_or]), rfl⟩
    · go_wp2
      go_ret
      exact ⟨ret_bool (by rw [clauseTrue, ← H.out, drop_len _ _ (by omega)]; rfl), rfl⟩
set_option maxHeartbeats 1600000 in
set_option maxRecDepth 100000 in
theorem l05How_any {l h : Nat} (p L n : Nat) (v : Value) (cs : List (List Int)) (w : World) (hp0 : w.cell? ⟨p, 0, none⟩ = some (.int .i64 L)) (hp1 : w.cell? ⟨p, 1, none⟩ = some v) (hv : Intss w l h v cs) (hl : LitsAll L cs) (hL : L ≤ 10) (hn : n < 4294967296) (hz : cs.length ≤ 1048576) :
    Calls Try.prog 117 #[.pointer (some ⟨p, 0, none⟩), .int .i64 n] w fun e w' => e = .returned (.int .i64 (heldN (valuesN L n) cs)) ∧ Drew w w' := by
  obtain ⟨a, cap, V, rfl, hc1, hc2, hV, hd⟩ := hv.out
  have HL := Lib.hid hl
  have HU := Lib.hid hV
  clear hl hV
  go_enter Try.func117, Try.ntmps117
  go_wp2_with fail
  go_loopw [5, 12] (fun c i wr => ∃ k m : Nat, k ≤ cs.length ∧ i = .int .i64 k ∧ c = .int .i64 m ∧ m ≤ k ∧ Hid (m + heldN (valuesN L n) (cs.drop k) = heldN (valuesN L n) cs) ∧ Drew w wr) (fun _ i _ => cs.length - (intOf i).toNat)
  case atStart => exact ⟨0, 0, Nat.zero_le _, rfl, rfl, Nat.le_refl _, Lib.hid (by simp), Drew.refl _⟩
  case round =>
    obtain ⟨k, m, hk, rfl, rfl, hm, H, hD⟩ := hrel
    have hcw := hD.cell
    by_cases hlt : k < cs.length
    · have HD := Lib.hid (drop_cons cs k hlt)
      rcases hd with hd | ⟨b, off, rfl, hb1, hb2, hb3, hcell⟩
      · rw [hd] at hlt; simp at hlt
      have hck := hcell k hlt
      have hx := Lib.hid ((HU.out k hlt).drew hD)
      have hq := Lib.hid (HL.out cs[k] (List.getElem_mem _))
      clear hcell
      cases hin : clauseTrue (valuesN L n) cs[k]
      all_goals
        go_wp2_with fail
        go_quiet ((go_at_call 126; exact quiet_same (l05Holds_any _ _ _ _ _ (hx.out.drewN _) hq.out hL hn)))
        simp only [hin]
        go_wp2
      · go_roundw
        case rel => exact ⟨k + 1, m, by omega, by go_num, rfl, by omega, Lib.hid (by rw [← H.out, HD.out, heldN, heldN, List.countP_cons, hin]; simp), hD.step _⟩
        case measure => simp [intOf]; omega
      · go_roundw
        case rel => exact ⟨k + 1, m + 1, by omega, by go_num, by go_num, by omega, Lib.hid (by rw [← H.out, HD.out, heldN, heldN, List.countP_cons, hin]; simp; omega), hD.step _⟩
        case measure => simp [intOf]; omega
    · go_wp2
      go_ret
      exact ⟨ret_int (by have := H.out; rw [drop_len _ _ (by omega)] at this; simp [heldN] at this; simp [heldN]; omega), hD⟩
set_option maxHeartbeats 800000 in
set_option maxRecDepth 100000 in
theorem l05Model_any {l h : Nat} (p L n : Nat) (v : Value) (cs : List (List Int)) (w : World) (hp0 : w.cell? ⟨p, 0, none⟩ = some (.int .i64 L)) (hp1 : w.cell? ⟨p, 1, none⟩ = some v) (hv : Intss w l h v cs) (hl : LitsAll L cs) (hL : L ≤ 10) (hn : n < 4294967296) (hz : cs.length ≤ 1048576) :
    Calls Try.prog 84 #[.pointer (some ⟨p, 0, none⟩), .int .i64 n] w fun e w' => e = .returned (.bool (formTrue (valuesN L n) cs)) ∧ Drew w w' := by
  obtain ⟨a, cap, V, e, hc1, hc2, hV, hd⟩ := hv.out
  subst e
  go_enter Try.func84, Try.ntmps84
  go_wp2_with fail
  go_quiet ((go_at_call 117; exact quiet_drew (l05How_any p L n _ cs _ hp0 hp1 (hv.drew (Drew.one w _)) hl hL hn hz)))
  go_wp2
  go_ret
  exact ⟨ret_bool (beq_cast _ _), Drew.one _ _⟩
end Go.Proofs.Ytcpbgjnijhcpkaa
