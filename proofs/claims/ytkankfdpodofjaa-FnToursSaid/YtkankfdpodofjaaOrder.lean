/-
  Contracts of the functions that ask whether a list is an order of the first numbers, in the reference and in the program.
-/
import Derived.Test.YtkankfdpodofjaaNum
import Derived.Test.YtkankfdpodofjaaBool
namespace Go.Proofs.Ytkankfdpodofjaa
open Go.RowKit
set_option linter.unusedVariables false
set_option maxRecDepth 100000

def orderGo (n : Int) : List Int → List Int → Bool
  | _, [] => true
  | seen, x :: r => inB 0 (n - 1) x && !hasI seen x && orderGo n (x :: seen) r
def isOrder (n : Int) (zs : List Int) : Bool := decide ((zs.length : Int) = n) && orderGo n [] zs
def dupGo : List Int → List Int → Bool
  | _, [] => true
  | pre, x :: r => !hasI pre x && dupGo (pre ++ [x]) r

theorem dupGo_iff (pre zs : List Int) : dupGo pre zs = true ↔ zs.Nodup ∧ ∀ x ∈ zs, x ∉ pre := by
  induction zs generalizing pre with
  | nil => simp [dupGo]
  | cons a r ih =>
    simp only [dupGo, Bool.and_eq_true, ih, List.nodup_cons, List.mem_cons, forall_eq_or_imp, Bool.not_eq_true', hasI_false, List.mem_append, not_or]
    constructor
    · rintro ⟨h1, h2, h3⟩
      exact ⟨⟨fun h => (h3 a h).2.1 rfl, h2⟩, h1, fun x hx => (h3 x hx).1⟩
    · rintro ⟨⟨h1, h2⟩, h3, h4⟩
      exact ⟨h3, h2, fun x hx => ⟨h4 x hx, fun e => h1 (e ▸ hx), by simp⟩⟩
theorem orderGo_iff (n : Int) (seen zs : List Int) : orderGo n seen zs = true ↔ (∀ x ∈ zs, 0 ≤ x ∧ x < n) ∧ zs.Nodup ∧ ∀ x ∈ zs, x ∉ seen := by
  induction zs generalizing seen with
  | nil => simp [orderGo]
  | cons a r ih =>
    simp only [orderGo, Bool.and_eq_true, ih, List.nodup_cons, List.mem_cons, forall_eq_or_imp, Bool.not_eq_true', hasI_false, inB_iff, not_or]
    constructor
    · rintro ⟨⟨h1, h2⟩, h3, h4, h5⟩
      exact ⟨⟨by omega, h3⟩, ⟨fun h => (h5 a h).1 rfl, h4⟩, h2, fun x hx => (h5 x hx).2⟩
    · rintro ⟨⟨h1, h3⟩, ⟨h5, h4⟩, h2, h6⟩
      exact ⟨⟨by omega, h2⟩, h3, h4, fun x hx => ⟨fun e => h5 (e ▸ hx), h6 x hx⟩⟩
theorem order_law (n : Int) (zs : List Int) : isOrder n zs = (decide ((zs.length : Int) = n) && (zs.all (inB 0 (n - 1)) && dupGo [] zs)) := by
  unfold isOrder
  congr 1
  rw [Bool.eq_iff_iff, orderGo_iff, Bool.and_eq_true, dupGo_iff, List.all_eq_true]
  simp only [inB_iff]
  constructor
  · rintro ⟨h1, h2, h3⟩; exact ⟨fun x hx => by have := h1 x hx; omega, h2, by simp⟩
  · rintro ⟨h1, h2, h3⟩; exact ⟨fun x hx => by have := h1 x hx; omega, h2, by simp⟩
theorem isOrder_iff (n : Int) (zs : List Int) : isOrder n zs = true ↔ (zs.length : Int) = n ∧ (∀ x ∈ zs, 0 ≤ x ∧ x < n) ∧ zs.Nodup := by
  rw [isOrder, Bool.and_eq_true, orderGo_iff, decide_eq_true_eq]; simp
set_option maxHeartbeats 800000 in
set_option maxRecDepth 100000 in
theorem isOrderOf_any {l h : Nat} (n : Int) (v : Value) (zs : List Int) (w : World) (hv : Ints w l h v zs) (hz : zs.length ≤ 1048576) :
    Calls Try.prog 93 #[.int .i64 n, v] w fun e w' => e = .returned (.bool (isOrder n zs)) ∧ w = w' := by
  have hz' : zs.length ≤ 17592186043904 := by omega
  have HE := Lib.hid (order_law n zs)
  obtain ⟨a, cap, rfl, hc1, hc2, hd⟩ := hv.out
  by_cases hn : (zs.length : Int) = n
  case neg =>
    have hne : ((zs.length : Int) != n) = true := by simp [hn]
    have HN := Lib.hid hn
    clear hn
    go_enter Try.func93, Try.ntmps93
    go_wp2_with (go_at_call 66; refine (size_any _ hz' _).mono ?_; rintro e w' ⟨rfl, rfl⟩)
    go_ret
    exact ⟨ret_bool (by rw [HE.out, decide_eq_false HN.out, Bool.false_and]), rfl⟩
  subst hn
  have hne : ((zs.length : Int) != (zs.length : Int)) = false := by simp
  cases hw : zs.all (inB 0 ((zs.length : Int) - 1))
  · go_enter Try.func93, Try.ntmps93
    go_wp2_with (first | (go_at_call 66; refine (size_any _ hz' _).mono ?_; rintro e w' ⟨rfl, rfl⟩) | (go_at_call 82; refine (allWithin_any _ _ _ _ _ _ _ hv).mono ?_; rintro e w' ⟨rfl, rfl⟩))
    go_ret
    exact ⟨ret_bool (by rw [HE.out, hw]; simp), rfl⟩
  · have HF := Lib.hid (show isOrder (zs.length : Int) zs = dupGo [] zs by rw [HE.out, hw]; simp)
    go_enter Try.func93, Try.ntmps93
    go_wp2_with (first | (go_at_call 66; refine (size_any _ hz' _).mono ?_; rintro e w' ⟨rfl, rfl⟩) | (go_at_call 82; refine (allWithin_any _ _ _ _ _ _ _ hv).mono ?_; rintro e w' ⟨rfl, rfl⟩))
    go_loop [21] (fun i => ∃ k : Nat, k ≤ zs.length ∧ i = .int .i64 k ∧ Hid (dupGo (zs.take k) (zs.drop k) = dupGo [] zs)) (fun i => zs.length - (intOf i).toNat)
    case atStart => exact ⟨0, Nat.zero_le _, rfl, Lib.hid rfl⟩
    case round =>
      obtain ⟨k, hk, rfl, H⟩ := hrel
      by_cases hlt : k < zs.length
      · have HD := Lib.hid (drop_cons zs k hlt)
        have HT := Lib.hid (show zs.take (k + 1) = zs.take k ++ [zs[k]] from List.take_succ_eq_append_getElem hlt)
        have hT := hv.take (Nat.le_of_lt hlt)
        have hkc : k ≤ cap := by omega
        rcases hd with rfl | ⟨b, off, rfl, hb1, hb2, hb3, hcell⟩
        · simp at hlt
        have hck := hcell k hlt
        have hcap : ¬ cap = 0 := by omega
        clear hcell
        cases hq : hasI (zs.take k) zs[k]
        · go_wp2_with (go_at_call 84; refine (has_any _ _ _ _ hT).mono ?_; rintro e w' ⟨rfl, rfl⟩)
          go_round
          case rel => exact ⟨k + 1, by omega, by go_num, Lib.hid (by rw [← H.out, HD.out, dupGo, hq, HT.out]; rfl)⟩
          case measure => simp [intOf]; omega
        · go_wp2_with (go_at_call 84; refine (has_any _ _ _ _ hT).mono ?_; rintro e w' ⟨rfl, rfl⟩)
          go_ret
          exact ⟨ret_bool (by rw [HF.out, ← H.out, HD.out, dupGo, hq]; rfl), rfl⟩
      · go_wp2
        go_ret
        exact ⟨ret_bool (by rw [HF.out, ← H.out, drop_len _ _ (by omega), dupGo]), rfl⟩
end Go.Proofs.Ytkankfdpodofjaa
