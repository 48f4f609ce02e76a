/-
  Contracts in the reference on a form that lies at an offset of its block (written by wip/gen/off.py).
-/
import Derived.Test.YtcpbgjnijhcpkaaFormA
import Derived.Test.YtcpbgjnijhcpkaaHold
import Derived.Test.YtcpbgjnijhcpkaaModels2
namespace Go.Proofs.Ytcpbgjnijhcpkaa
open Go.RowKit
set_option linter.unusedVariables false
set_option maxRecDepth 100000

set_option maxHeartbeats 1600000 in
set_option maxRecDepth 100000 in
theorem l05IsO_any (w : World) {l h : Nat} (p po : Nat) (v : Value) (f : FormD) (hp0 : w.cell? ⟨p, po, none⟩ = some (.int .i64 f.letters)) (hp1 : w.cell? ⟨p, po + 1, none⟩ = some v) (hpl : p < w.heap.size) (kL : I64 f.letters) (hv : Intss w l h v f.clauses) (hh : h ≤ w.heap.size) :
    Calls Try.prog 51 #[.pointer (some ⟨p, po, none⟩)] w fun e w' => e = .returned (.bool (validForm f)) ∧ Below w.heap.size w w' := by
  obtain ⟨a, cap, V, rfl, hc1, hc2, hV, hd⟩ := hv.out
  have HV := Lib.hid hV
  clear hV hv
  cases hL : inB 1 10 f.letters
  · go_enter Try.func51, Try.ntmps51
    go_wp2_with fail
    refine (l05Letters_any _ _).mono ?_
    rintro e w' ⟨rfl, rfl⟩
    go_wp2
    go_ret
    exact ⟨ret_bool (by rw [validForm, hL, Bool.false_and, Bool.false_and]), Below.refl _ _⟩
  cases hN : decide (f.clauses.length ≤ 48)
  · go_enter Try.func51, Try.ntmps51
    go_wp2_with fail
    refine (l05Letters_any _ _).mono ?_
    rintro e w' ⟨rfl, rfl⟩
    simp at hN
    go_wp2
    go_ret
    exact ⟨ret_bool (by rw [validForm, decide_eq_false (by omega : ¬ f.clauses.length ≤ 48), Bool.and_false, Bool.false_and]), Below.refl _ _⟩
  · have HE := Lib.hid (show validForm f = f.clauses.all (isClause f.letters) by rw [validForm, hL, hN, Bool.true_and, Bool.true_and])
    simp at hN
    go_enter Try.func51, Try.ntmps51
    go_wp2_with fail
    refine (l05Letters_any _ _).mono ?_
    rintro e w' ⟨rfl, rfl⟩
    go_wp2
    go_loopw [23] (fun i wr => ∃ k : Nat, k ≤ f.clauses.length ∧ i = .int .i64 k ∧ Hid ((f.clauses.drop k).all (isClause f.letters) = f.clauses.all (isClause f.letters)) ∧ Below w.heap.size w wr) (fun i _ => f.clauses.length - (intOf i).toNat)
    case atStart => exact ⟨0, Nat.zero_le _, rfl, Lib.hid rfl, Below.refl _ _⟩
    case round =>
      obtain ⟨k, hk, rfl, H, hb⟩ := hrel
      have hbs := hb.size
      by_cases hlt : k < f.clauses.length
      · have HD := Lib.hid (drop_cons f.clauses k hlt)
        rcases hd with hd | ⟨b, off, rfl, hb1, hb2, hb3, hcell⟩
        · rw [hd] at hlt; simp at hlt
        have hck := hcell k hlt
        have hx := (HV.out k hlt).below hb hh
        clear hcell
        rw [← hb.cell (p := ⟨b, off + k, none⟩) (show b < w.heap.size by omega)] at hck
        rw [← hb.cell (p := ⟨p, po, none⟩) hpl] at hp0
        rw [← hb.cell (p := ⟨p, po + 1, none⟩) hpl] at hp1
        go_wp2_with fail
        go_still_tail 11, (by kernel_rfl)
        go_wp2_with fail
        have hD1 : Drew wr wr.drew := ⟨1, rfl⟩
        cases hin : isClause f.letters f.clauses[k]
        all_goals
          refine (l05Clause_any wr.drew _ _ _ kL (hx.drew hD1) (by rw [hD1.heap]; omega)).mono ?_
          rintro e w2 ⟨rfl, hb2'⟩
          have hb2 := (hD1.below _).trans hb2'
          clear hb2'
          rw [hin]
          go_wp2
        · go_ret
          exact ⟨ret_bool (by rw [HE.out, ← H.out, HD.out, List.all_cons, hin, Bool.false_and]), hb.trans (hb2.mono hbs)⟩
        · go_roundw
          case rel => exact ⟨k + 1, by omega, by go_num, Lib.hid (by rw [← H.out, HD.out, List.all_cons, hin, Bool.true_and]), hb.trans (hb2.mono hbs)⟩
          case measure => simp [intOf]; omega
      · go_wp2
        go_ret
        exact ⟨ret_bool (by rw [HE.out, ← H.out, drop_len _ _ (by omega)]; rfl), hb⟩
set_option maxHeartbeats 1600000 in
set_option maxRecDepth 100000 in
theorem l05HowO_any {l h : Nat} (p po L n : Nat) (v : Value) (cs : List (List Int)) (w : World) (hp0 : w.cell? ⟨p, po, none⟩ = some (.int .i64 L)) (hp1 : w.cell? ⟨p, po + 1, none⟩ = some v) (hv : Intss w l h v cs) (hl : LitsAll L cs) (hL : L ≤ 10) (hn : n < 4294967296) (hz : cs.length ≤ 1048576) :
    Calls Try.prog 117 #[.pointer (some ⟨p, po, none⟩), .int .i64 n] w fun e w' => e = .returned (.int .i64 (heldN (valuesN L n) cs)) ∧ Drew w w' := by
  obtain ⟨a, cap, V, rfl, hc1, hc2, hV, hd⟩ := hv.out
  have HL := Lib.hid hl
  have HU := Lib.hid hV
  clear hl hV
  go_enter Try.func117, Try.ntmps117
  go_wp2_with fail
  go_loopw [5, 12] (fun c i wr => ∃ k m : Nat, k ≤ cs.length ∧ i = .int .i64 k ∧ c = .int .i64 m ∧ m ≤ k ∧ Hid (m + heldN (valuesN L n) (cs.drop k) = heldN (valuesN L n) cs) ∧ Drew w wr) (fun _ i _ => cs.length - (intOf i).toNat)
  case atStart => exact ⟨0, 0, Nat.zero_le _, rfl, rfl, Nat.le_refl _, Lib.hid (by simp), Drew.refl _⟩
  case round =>
    obtain ⟨k, m, hk, rfl, rfl, hm, H, hD⟩ := hrel
    have hcw := hD.cell
    by_cases hlt : k < cs.length
    · have HD := Lib.hid (drop_cons cs k hlt)
      rcases hd with hd | ⟨b, off, rfl, hb1, hb2, hb3, hcell⟩
      · rw [hd] at hlt; simp at hlt
      have hck := hcell k hlt
      have hx := Lib.hid ((HU.out k hlt).drew hD)
      have hq := Lib.hid (HL.out cs[k] (List.getElem_mem _))
      clear hcell
      cases hin : clauseTrue (valuesN L n) cs[k]
      all_goals
        go_wp2_with fail
        go_quiet ((go_at_call 126; exact quiet_same (l05Holds_any _ _ _ _ _ (hx.out.drewN _) hq.out hL hn)))
        simp only [hin]
        go_wp2
      · go_roundw
        case rel => exact ⟨k + 1, m, by omega, by go_num, rfl, by omega, Lib.hid (by rw [← H.out, HD.out, heldN, heldN, List.countP_cons, hin]; simp), hD.step _⟩
        case measure => simp [intOf]; omega
      · go_roundw
        case rel => exact ⟨k + 1, m + 1, by omega, by go_num, by go_num, by omega, Lib.hid (by rw [← H.out, HD.out, heldN, heldN, List.countP_cons, hin]; simp; omega), hD.step _⟩
        case measure => simp [intOf]; omega
    · go_wp2
      go_ret
      exact ⟨ret_int (by have := H.out; rw [drop_len _ _ (by omega)] at this; simp [heldN] at this; simp [heldN]; omega), hD⟩
set_option maxHeartbeats 800000 in
set_option maxRecDepth 100000 in
theorem l05ModelO_any {l h : Nat} (p po L n : Nat) (v : Value) (cs : List (List Int)) (w : World) (hp0 : w.cell? ⟨p, po, none⟩ = some (.int .i64 L)) (hp1 : w.cell? ⟨p, po + 1, none⟩ = some v) (hv : Intss w l h v cs) (hl : LitsAll L cs) (hL : L ≤ 10) (hn : n < 4294967296) (hz : cs.length ≤ 1048576) :
    Calls Try.prog 84 #[.pointer (some ⟨p, po, none⟩), .int .i64 n] w fun e w' => e = .returned (.bool (formTrue (valuesN L n) cs)) ∧ Drew w w' := by
  obtain ⟨a, cap, V, e, hc1, hc2, hV, hd⟩ := hv.out
  subst e
  go_enter Try.func84, Try.ntmps84
  go_wp2_with fail
  go_quiet ((go_at_call 117; exact quiet_drew (l05HowO_any p po L n _ cs _ hp0 hp1 (hv.drew (Drew.one w _)) hl hL hn hz)))
  go_wp2
  go_ret
  exact ⟨ret_bool (beq_cast _ _), Drew.one _ _⟩
set_option maxHeartbeats 800000 in
set_option maxRecDepth 100000 in
theorem l05CountO_any {l h : Nat} (p po L : Nat) (v : Value) (cs : List (List Int)) (w : World) (hp0 : w.cell? ⟨p, po, none⟩ = some (.int .i64 L)) (hp1 : w.cell? ⟨p, po + 1, none⟩ = some v) (hv : Intss w l h v cs) (hl : LitsAll L cs) (hL : L ≤ 10) (hz : cs.length ≤ 1048576) :
    Calls Try.prog 52 #[.pointer (some ⟨p, po, none⟩)] w fun e w' => e = .returned (.int .i64 ((countN L cs (2 ^ L) : Nat))) ∧ Drew w w' := by
  obtain ⟨N, hN⟩ : ∃ N : Nat, N = 2 ^ L := ⟨_, rfl⟩
  have hsh := (shl_one L hL).1
  have hN2 := (shl_one L hL).2
  rw [← hN] at hsh hN2
  have HN := Lib.hid hN
  have HV := Lib.hid hv
  have HL := Lib.hid hl
  have HP1 := Lib.hid hp1
  clear hN hv hl hp1
  go_enter Try.func52, Try.ntmps52
  go_wp2_with fail
  go_loopw [3, 4] (fun c i wr => ∃ n m : Nat, n ≤ N ∧ i = .int .i64 n ∧ c = .int .i64 m ∧ m ≤ n ∧ Hid (m = countN L cs n) ∧ Drew w wr) (fun _ i _ => N - (intOf i).toNat)
  case atStart => exact ⟨0, 0, Nat.zero_le _, rfl, rfl, Nat.le_refl _, Lib.hid rfl, Drew.refl _⟩
  case round =>
    obtain ⟨n, m, hn, rfl, rfl, hm, H, hD⟩ := hrel
    have hp0' := hp0
    rw [← hD.cell] at hp0'
    by_cases hlt : n < N
    · cases hft : formTrue (valuesN L n) cs
      all_goals
        go_wp2_with fail
        refine (l05ModelO_any p po L n _ cs wr hp0' (by rw [hD.cell]; exact HP1.out) (HV.out.drew hD) HL.out hL (by omega) hz).mono ?_
        rintro e w2 ⟨rfl, hD2⟩
        rw [hft]
        go_wp2
        go_roundw
      · exact ⟨n + 1, m, by omega, by go_num, rfl, by omega, Lib.hid (by rw [countN_succ, hft, H.out]; rfl), hD.trans hD2⟩
      · simp [intOf]; omega
      · exact ⟨n + 1, m + 1, by omega, by go_num, by go_num, by omega, Lib.hid (by rw [countN_succ, hft, H.out]; rfl), hD.trans hD2⟩
      · simp [intOf]; omega
    · go_wp2
      go_ret
      obtain rfl : n = N := by omega
      exact ⟨ret_int (by rw [H.out, HN.out]), hD⟩
end Go.Proofs.Ytcpbgjnijhcpkaa
