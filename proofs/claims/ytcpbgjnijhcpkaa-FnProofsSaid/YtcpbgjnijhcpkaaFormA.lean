/-
  Contracts of ValidForm, in the reference and in the program.
-/
import Derived.Test.YtcpbgjnijhcpkaaForm
import Derived.Test.YtcpbgjnijhcpkaaClause
import Derived.StillTailTactics
namespace Go.Proofs.Ytcpbgjnijhcpkaa
open Go.RowKit
set_option linter.unusedVariables false
set_option maxRecDepth 100000

def validForm (f : FormD) : Bool := inB 1 10 f.letters && decide (f.clauses.length ≤ 48) && f.clauses.all (isClause f.letters)
theorem validForm_bounds {f : FormD} (h : validForm f = true) : (1 ≤ f.letters ∧ f.letters ≤ 10) ∧ f.clauses.length ≤ 48 ∧ ∀ c ∈ f.clauses, isClause f.letters c = true := by
  simp only [validForm, Bool.and_eq_true, decide_eq_true_eq, List.all_eq_true] at h
  exact ⟨inB_true h.1.1, h.1.2, h.2⟩
/-- the two cells of a form that lies in a block of its own -/
theorem boxF (w : World) (a b : Value) (t : TypeId) : (w.alloc (.cells #[a, b] t)).cell? ⟨w.heap.size, 0, none⟩ = some a ∧ (w.alloc (.cells #[a, b] t)).cell? ⟨w.heap.size, 1, none⟩ = some b := by
  constructor <;> (rw [World.cell?_alloc_at _ _ _ _ rfl]; rfl)
set_option maxHeartbeats 800000 in
set_option maxRecDepth 100000 in
theorem implValidForm_any (w : World) {l h : Nat} (v : Value) (f : FormD) (hv : FormR w l h v f) (hh : h ≤ w.heap.size) (hz : SmallII f.clauses) :
    Calls Try.prog 25 #[v] w fun e w' => e = .returned (.bool (validForm f)) ∧ Below w.heap.size w w' := by
  obtain ⟨v1, rfl, hv1⟩ := hv.ex
  have kL := hv.rng
  obtain ⟨W, hW⟩ : ∃ W, W = w.alloc (.cells #[.int .i64 f.letters, v1] 26) := ⟨_, rfl⟩
  have hBW : Below w.heap.size w W := by rw [hW]; exact alloc_below _ _
  have k0 : W.cell? ⟨w.heap.size, 0, none⟩ = some (.int .i64 f.letters) := by rw [hW]; exact (boxF _ _ _ _).1
  have k1 : W.cell? ⟨w.heap.size, 1, none⟩ = some v1 := by rw [hW]; exact (boxF _ _ _ _).2
  have hv2 := hv1.below hBW hh
  have hsW := hBW.size
  obtain ⟨a, cap, V, rfl, hc1, hc2, hV, hd⟩ := hv2.out
  have HV := Lib.hid hV
  have HZ := Lib.hid hz
  clear hV hz hv2 hv1
  cases hL : inB 1 10 f.letters
  · go_enter Try.func25, Try.ntmps25
    go_wp2_with fail
    rw [← hW]
    clear hW
    refine (isLetterCount_any _ _).mono ?_
    rintro e w' ⟨rfl, rfl⟩
    go_wp2
    go_ret
    exact ⟨ret_bool (by rw [validForm, hL, Bool.false_and, Bool.false_and]), hBW⟩
  cases hN : decide (f.clauses.length ≤ 48)
  · go_enter Try.func25, Try.ntmps25
    go_wp2_with fail
    rw [← hW]
    clear hW
    refine (isLetterCount_any _ _).mono ?_
    rintro e w' ⟨rfl, rfl⟩
    simp at hN
    go_wp2
    go_ret
    exact ⟨ret_bool (by rw [validForm, decide_eq_false (by omega : ¬ f.clauses.length ≤ 48), Bool.and_false, Bool.false_and]), hBW⟩
  · have HE := Lib.hid (show validForm f = f.clauses.all (isClause f.letters) by rw [validForm, hL, hN, Bool.true_and, Bool.true_and])
    simp at hN
    go_enter Try.func25, Try.ntmps25
    go_wp2_with fail
    rw [← hW]
    clear hW
    refine (isLetterCount_any _ _).mono ?_
    rintro e w' ⟨rfl, rfl⟩
    go_wp2
    go_loop [18] (fun i => ∃ k : Nat, k ≤ f.clauses.length ∧ i = .int .i64 k ∧ Hid ((f.clauses.drop k).all (isClause f.letters) = f.clauses.all (isClause f.letters))) (fun i => f.clauses.length - (intOf i).toNat)
    case atStart => exact ⟨0, Nat.zero_le _, rfl, Lib.hid rfl⟩
    case round =>
      obtain ⟨k, hk, rfl, H⟩ := hrel
      by_cases hlt : k < f.clauses.length
      · have HD := Lib.hid (drop_cons f.clauses k hlt)
        rcases hd with hd | ⟨b, off, rfl, hb1, hb2, hb3, hcell⟩
        · rw [hd] at hlt; simp at hlt
        have hck := hcell k hlt
        have hx := HV.out k hlt
        clear hcell
        cases hin : isClause f.letters f.clauses[k]
        · go_wp2_with (go_at_call 19; refine (isClause_any _ _ _ _ kL hx (by omega) (HZ.out.row hlt)).mono ?_; rintro e w' ⟨rfl, rfl⟩)
          go_ret
          exact ⟨ret_bool (by rw [HE.out, ← H.out, HD.out, List.all_cons, hin, Bool.false_and]), hBW⟩
        · go_wp2_with (go_at_call 19; refine (isClause_any _ _ _ _ kL hx (by omega) (HZ.out.row hlt)).mono ?_; rintro e w' ⟨rfl, rfl⟩)
          go_round
          case rel => exact ⟨k + 1, by omega, by go_num, Lib.hid (by rw [← H.out, HD.out, List.all_cons, hin, Bool.true_and])⟩
          case measure => simp [intOf]; omega
      · go_wp2
        go_ret
        exact ⟨ret_bool (by rw [HE.out, ← H.out, drop_len _ _ (by omega)]; rfl), hBW⟩
set_option maxHeartbeats 1600000 in
set_option maxRecDepth 100000 in
theorem l05Is_any (w : World) {l h : Nat} (p : Nat) (v : Value) (f : FormD) (hp0 : w.cell? ⟨p, 0, none⟩ = some (.int .i64 f.letters)) (hp1 : w.cell? ⟨p, 1, none⟩ = some v) (hpl : p < w.heap.size) (kL : I64 f.letters) (hv : Intss w l h v f.clauses) (hh : h ≤ w.heap.size) :
    Calls Try.prog 51 #[.pointer (some ⟨p, 0, none⟩)] w fun e w' => e = .returned (.bool (validForm f)) ∧ Below w.heap.size w w' := by
  obtain ⟨a, cap, V, rfl, hc1, hc2, hV, hd⟩ := hv.out
  have HV := Lib.hid hV
  clear hV hv
  cases hL : inB 1 10 f.letters
  · go_enter Try.func51, Try.ntmps51
    go_wp2_with fail
    refine (l05Letters_any _ _).mono ?_
    rintro e w' ⟨rfl, rfl⟩
    go_wp2
    go_ret
    exact ⟨ret_bool (by rw [validForm, hL, Bool.false_and, Bool.false_and]), Below.refl _ _⟩
  cases hN : decide (f.clauses.length ≤ 48)
  · go_enter Try.func51, Try.ntmps51
    go_wp2_with fail
    refine (l05Letters_any _ _).mono ?_
    rintro e w' ⟨rfl, rfl⟩
    simp at hN
    go_wp2
    go_ret
    exact ⟨ret_bool (by rw [validForm, decide_eq_false (by omega : ¬ f.clauses.length ≤ 48), Bool.and_false, Bool.false_and]), Below.refl _ _⟩
  · have HE := Lib.hid (show validForm f = f.clauses.all (isClause f.letters) by rw [validForm, hL, hN, Bool.true_and, Bool.true_and])
    simp at hN
    go_enter Try.func51, Try.ntmps51
    go_wp2_with fail
    refine (l05Letters_any _ _).mono ?_
    rintro e w' ⟨rfl, rfl⟩
    go_wp2
    go_loopw [23] (fun i wr => ∃ k : Nat, k ≤ f.clauses.length ∧ i = .int .i64 k ∧ Hid ((f.clauses.drop k).all (isClause f.letters) = f.clauses.all (isClause f.letters)) ∧ Below w.heap.size w wr) (fun i _ => f.clauses.length - (intOf i).toNat)
    case atStart => exact ⟨0, Nat.zero_le _, rfl, Lib.hid rfl, Below.refl _ _⟩
    case round =>
      obtain ⟨k, hk, rfl, H, hb⟩ := hrel
      have hbs := hb.size
      by_cases hlt : k < f.clauses.length
      · have HD := Lib.hid (drop_cons f.clauses k hlt)
        rcases hd with hd | ⟨b, off, rfl, hb1, hb2, hb3, hcell⟩
        · rw [hd] at hlt; simp at hlt
        have hck := hcell k hlt
        have hx := (HV.out k hlt).below hb hh
        clear hcell
        rw [← hb.cell (p := ⟨b, off + k, none⟩) (show b < w.heap.size by omega)] at hck
        rw [← hb.cell (p := ⟨p, 0, none⟩) hpl] at hp0
        rw [← hb.cell (p := ⟨p, 1, none⟩) hpl] at hp1
        go_wp2_with fail
        go_still_tail 11, (by kernel_rfl)
        go_wp2_with fail
        have hD1 : Drew wr wr.drew := ⟨1, rfl⟩
        cases hin : isClause f.letters f.clauses[k]
        all_goals
          refine (l05Clause_any wr.drew _ _ _ kL (hx.drew hD1) (by rw [hD1.heap]; omega)).mono ?_
          rintro e w2 ⟨rfl, hb2'⟩
          have hb2 := (hD1.below _).trans hb2'
          clear hb2'
          rw [hin]
          go_wp2
        · go_ret
          exact ⟨ret_bool (by rw [HE.out, ← H.out, HD.out, List.all_cons, hin, Bool.false_and]), hb.trans (hb2.mono hbs)⟩
        · go_roundw
          case rel => exact ⟨k + 1, by omega, by go_num, Lib.hid (by rw [← H.out, HD.out, List.all_cons, hin, Bool.true_and]), hb.trans (hb2.mono hbs)⟩
          case measure => simp [intOf]; omega
      · go_wp2
        go_ret
        exact ⟨ret_bool (by rw [HE.out, ← H.out, drop_len _ _ (by omega)]; rfl), hb⟩
end Go.Proofs.Ytcpbgjnijhcpkaa
