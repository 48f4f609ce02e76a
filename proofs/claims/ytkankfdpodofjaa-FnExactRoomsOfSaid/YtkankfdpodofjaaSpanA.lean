/-
  Contracts of AreSpans, in the reference and in the program.
-/
import Derived.Test.YtkankfdpodofjaaSpan
namespace Go.Proofs.Ytkankfdpodofjaa
open Go.RowKit
set_option linter.unusedVariables false
set_option maxRecDepth 100000

def okSpan (s : SpanD) : Bool := inB 0 100000 s.x0 && inB 0 100000 s.x1 && decide (s.x0 < s.x1) && inB 0 1000 s.x2
def areSpans (ss : List SpanD) : Bool := inB 1 64 ss.length && ss.all okSpan
theorem okSpan_bounds {s : SpanD} (h : okSpan s = true) : (0 ≤ s.x0 ∧ s.x0 ≤ 100000) ∧ (0 ≤ s.x1 ∧ s.x1 ≤ 100000) ∧ s.x0 < s.x1 ∧ (0 ≤ s.x2 ∧ s.x2 ≤ 1000) := by
  simp only [okSpan, Bool.and_eq_true, inB_iff, decide_eq_true_eq] at h
  exact ⟨h.1.1.1, h.1.1.2, h.1.2, h.2⟩
theorem okSpan_spec (s : SpanD) (h0 : inB 0 100000 s.x0 = true) (h1 : inB (s.x0 + 1) 100000 s.x1 = true) (h2 : inB 0 1000 s.x2 = true) : okSpan s = true := by
  rw [inB_iff] at h0 h1
  simp only [okSpan, h2, Bool.and_true, Bool.and_eq_true, inB_iff, decide_eq_true_eq]
  omega
theorem okSpan_no0 (s : SpanD) (h : inB 0 100000 s.x0 = false) : okSpan s = false := by simp [okSpan, h]
theorem okSpan_no1 (s : SpanD) (h : inB (s.x0 + 1) 100000 s.x1 = false) : okSpan s = false := by
  rw [Bool.eq_false_iff]; intro hk; have := okSpan_bounds hk; have := inB_false h; omega
theorem okSpan_no2 (s : SpanD) (h : inB 0 1000 s.x2 = false) : okSpan s = false := by simp [okSpan, h]
theorem okSpan_no3 (s : SpanD) (h : s.x1 ≤ s.x0) : okSpan s = false := by
  rw [Bool.eq_false_iff]; intro hk; have := okSpan_bounds hk; omega
set_option maxHeartbeats 1600000 in
set_option maxRecDepth 100000 in
theorem l06Spans_any {l h : Nat} (v : Value) (ss : List SpanD) (w : World) (hv : Spans w l h v ss) (hh : h ≤ w.heap.size) :
    Calls Try.prog 68 #[v] w fun e w' => e = .returned (.bool (areSpans ss)) ∧ Below w.heap.size w w' := by
  obtain ⟨a, cap, rfl, hc1, hc2, hd⟩ := hv.out
  go_enter Try.func68, Try.ntmps68
  go_wp2_with fail
  go_loopw [3] (fun i wr => ∃ k : Nat, k ≤ ss.length ∧ i = .int .i64 k ∧ Hid ((ss.drop k).all okSpan = ss.all okSpan) ∧ Below w.heap.size w wr) (fun i _ => ss.length - (intOf i).toNat)
  case atStart => exact ⟨0, Nat.zero_le _, rfl, Lib.hid (by simp), Below.refl _ _⟩
  case round =>
    obtain ⟨k, hk, rfl, H, hb⟩ := hrel
    by_cases hlt : k < ss.length
    · have HD := Lib.hid (drop_cons ss k hlt)
      rcases hd with rfl | ⟨b, off, rfl, hb1, hb2, hb3, hcell⟩
      · simp at hlt
      obtain ⟨c0, c1, c2⟩ := hcell k hlt
      rw [← hb.cell (p := ⟨b, off + k * 3, none⟩) (show b < w.heap.size by omega)] at c0
      rw [← hb.cell (p := ⟨b, off + k * 3 + 1, none⟩) (show b < w.heap.size by omega)] at c1
      rw [← hb.cell (p := ⟨b, off + k * 3 + 2, none⟩) (show b < w.heap.size by omega)] at c2
      clear hcell
      cases h0 : inB 0 100000 ss[k].x0
      case' true => have b0 := inB_true h0; cases h1 : inB (ss[k].x0 + 1) 100000 ss[k].x1
      case' true.true => cases h2 : inB 0 1000 ss[k].x2
      case true.true.true =>
        have HO := Lib.hid (okSpan_spec _ h0 h1 h2)
        go_wp2_with (go_at_call 92; refine (l00In_any _ _ _ _).mono ?_; rintro e w' ⟨rfl, rfl⟩)
        go_roundw
        case rel => exact ⟨k + 1, by omega, by go_num, Lib.hid (by rw [← H.out, HD.out, List.all_cons, HO.out, Bool.true_and]), hb.alloc hb.size _⟩
        case measure => simp [intOf]; omega
      all_goals
        have HO := Lib.hid (show okSpan ss[k] = false by first | exact okSpan_no0 _ h0 | exact okSpan_no1 _ h1 | exact okSpan_no2 _ h2)
        go_wp2_with (go_at_call 92; refine (l00In_any _ _ _ _).mono ?_; rintro e w' ⟨rfl, rfl⟩)
        go_ret
        exact ⟨ret_bool (by rw [areSpans, ← H.out, HD.out, List.all_cons, HO.out]; simp), hb.alloc hb.size _⟩
    · have HL := Lib.hid (show ss.all okSpan = true by rw [← H.out, drop_len _ _ (by omega)]; rfl)
      by_cases h1 : 1 ≤ ss.length
      · by_cases h2 : ss.length ≤ 64
        all_goals
          go_wp2
          go_ret
          exact ⟨ret_bool (by rw [areSpans, HL.out, inB]; simp; omega), hb⟩
      · go_wp2
        go_ret
        exact ⟨ret_bool (by rw [areSpans, HL.out, inB]; simp; omega), hb⟩
set_option maxHeartbeats 1600000 in
set_option maxRecDepth 100000 in
theorem implAreSpans_any (w : World) {l h : Nat} (v : Value) (ss : List SpanD) (hv : Spans w l h v ss) (hh : h ≤ w.heap.size) (hz : ss.length ≤ 1048576) :
    Calls Try.prog 73 #[v] w fun e w' => e = .returned (.bool (areSpans ss)) ∧ Below w.heap.size w w' := by
  obtain ⟨a, cap, rfl, hc1, hc2, hd⟩ := hv.out
  have hz' : ss.length ≤ 17592186043904 := by omega
  cases h1 : inB 1 64 ss.length
  · go_enter Try.func73, Try.ntmps73
    go_wp2_with (first | (go_at_call 66; refine (size_any _ hz' _).mono ?_; rintro e w' ⟨rfl, rfl⟩) | (go_at_call 49; refine (within_any _ _ _ _).mono ?_; rintro e w' ⟨rfl, rfl⟩))
    go_ret
    exact ⟨ret_bool (by rw [areSpans, h1, Bool.false_and]), Below.refl _ _⟩
  · have HE := Lib.hid (show areSpans ss = ss.all okSpan by rw [areSpans, h1, Bool.true_and])
    go_enter Try.func73, Try.ntmps73
    go_wp2_with (first | (go_at_call 66; refine (size_any _ hz' _).mono ?_; rintro e w' ⟨rfl, rfl⟩) | (go_at_call 49; refine (within_any _ _ _ _).mono ?_; rintro e w' ⟨rfl, rfl⟩))
    go_loopw [12] (fun i wr => ∃ k : Nat, k ≤ ss.length ∧ i = .int .i64 k ∧ Hid ((ss.drop k).all okSpan = ss.all okSpan) ∧ Below w.heap.size w wr) (fun i _ => ss.length - (intOf i).toNat)
    case atStart => exact ⟨0, Nat.zero_le _, rfl, Lib.hid (by simp), Below.refl _ _⟩
    case round =>
      obtain ⟨k, hk, rfl, H, hb⟩ := hrel
      by_cases hlt : k < ss.length
      · have HD := Lib.hid (drop_cons ss k hlt)
        rcases hd with rfl | ⟨b, off, rfl, hb1, hb2, hb3, hcell⟩
        · simp at hlt
        obtain ⟨c0, c1, c2⟩ := hcell k hlt
        rw [← hb.cell (p := ⟨b, off + k * 3, none⟩) (show b < w.heap.size by omega)] at c0
        rw [← hb.cell (p := ⟨b, off + k * 3 + 1, none⟩) (show b < w.heap.size by omega)] at c1
        rw [← hb.cell (p := ⟨b, off + k * 3 + 2, none⟩) (show b < w.heap.size by omega)] at c2
        clear hcell
        cases h0 : inB 0 100000 ss[k].x0
        case' true => cases h1 : inB 0 100000 ss[k].x1
        case' true.true => cases h3 : decide (ss[k].x1 ≤ ss[k].x0)
        case' true.true.false => cases h2 : inB 0 1000 ss[k].x2
        case true.true.false.true =>
          have h3' : decide (ss[k].x0 < ss[k].x1) = true := by simp at h3 ⊢; omega
          have HO := Lib.hid (show okSpan ss[k] = true by rw [okSpan, h0, h1, h2, h3']; rfl)
          clear h3'
          go_wp2_with (go_at_call 49; refine (within_any _ _ _ _).mono ?_; rintro e w' ⟨rfl, rfl⟩)
          go_roundw
          case rel => exact ⟨k + 1, by omega, by go_num, Lib.hid (by rw [← H.out, HD.out, List.all_cons, HO.out, Bool.true_and]), hb.alloc hb.size _⟩
          case measure => simp [intOf]; omega
        all_goals
          have HO := Lib.hid (show okSpan ss[k] = false by first | exact okSpan_no0 _ h0 | exact okSpan_no2 _ h2 | (simp [okSpan, h1]; done) | exact okSpan_no3 _ (of_decide_eq_true h3))
          go_wp2_with (go_at_call 49; refine (within_any _ _ _ _).mono ?_; rintro e w' ⟨rfl, rfl⟩)
          go_ret
          exact ⟨ret_bool (by rw [HE.out, ← H.out, HD.out, List.all_cons, HO.out]; simp), hb.alloc hb.size _⟩
      · go_wp2
        go_ret
        exact ⟨ret_bool (by rw [HE.out, ← H.out, drop_len _ _ (by omega)]; rfl), hb⟩
end Go.Proofs.Ytkankfdpodofjaa
