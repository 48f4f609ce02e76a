/-
  Contracts of AreJobs, in the reference and in the program.
-/
import Derived.Test.YteoikfddebbakaaJob
namespace Go.Proofs.Yteoikfddebbakaa
open Go.RowKit
set_option linter.unusedVariables false
set_option maxRecDepth 100000

def okJob (j : JobD) : Bool := inB 1 1000 j.x0 && inB 0 100000 j.x1 && inB 0 1000 j.x2 && inB 0 100000 j.x3
def areJobs (js : List JobD) : Bool := inB 1 12 js.length && js.all okJob
theorem okJob_bounds {j : JobD} (h : okJob j = true) : (1 ≤ j.x0 ∧ j.x0 ≤ 1000) ∧ (0 ≤ j.x1 ∧ j.x1 ≤ 100000) ∧ (0 ≤ j.x2 ∧ j.x2 ≤ 1000) ∧ (0 ≤ j.x3 ∧ j.x3 ≤ 100000) := by
  simp only [okJob, Bool.and_eq_true, inB_iff] at h
  exact ⟨h.1.1.1, h.1.1.2, h.1.2, h.2⟩
set_option maxHeartbeats 800000 in
set_option maxRecDepth 100000 in
theorem l06Job_any (j : JobD) (b off : Nat) (w : World) (c0 : w.cell? ⟨b, off, none⟩ = some (.int .i64 j.x0)) (c1 : w.cell? ⟨b, off + 1, none⟩ = some (.int .i64 j.x1))
    (c2 : w.cell? ⟨b, off + 2, none⟩ = some (.int .i64 j.x2)) (c3 : w.cell? ⟨b, off + 3, none⟩ = some (.int .i64 j.x3)) :
    Calls Try.prog 91 #[.pointer (some ⟨b, off, none⟩)] w fun e w' => e = .returned (.bool (okJob j)) ∧ w = w' := by
  have HE := Lib.hid (show okJob j = _ from rfl)
  cases h0 : inB 1 1000 j.x0
  case' true => cases h1 : inB 0 100000 j.x1
  case' true.true => cases h2 : inB 0 1000 j.x2
  case' true.true.true => cases h3 : inB 0 100000 j.x3
  all_goals
    go_enter Try.func91, Try.ntmps91
    go_wp2_with (go_at_call 40; refine (l00In_any _ _ _ _).mono ?_; rintro e w' ⟨rfl, rfl⟩)
    go_ret
    exact ⟨ret_bool (by simp [okJob, *]), rfl⟩
set_option maxHeartbeats 800000 in
set_option maxRecDepth 100000 in
theorem l06Are_any {l h : Nat} (v : Value) (js : List JobD) (w : World) (hv : Jobs w l h v js) :
    Calls Try.prog 51 #[v] w fun e w' => e = .returned (.bool (areJobs js)) ∧ w = w' := by
  obtain ⟨a, cap, rfl, hc1, hc2, hd⟩ := hv.out
  go_enter Try.func51, Try.ntmps51
  go_wp2_with fail
  go_loop [3] (fun i => ∃ k : Nat, k ≤ js.length ∧ i = .int .i64 k ∧ Hid ((js.drop k).all okJob = js.all okJob)) (fun i => js.length - (intOf i).toNat)
  case atStart => exact ⟨0, Nat.zero_le _, rfl, Lib.hid (by simp)⟩
  case round =>
    obtain ⟨k, hk, rfl, H⟩ := hrel
    by_cases hlt : k < js.length
    · have HD := Lib.hid (drop_cons js k hlt)
      rcases hd with rfl | ⟨b, off, rfl, hb1, hb2, hb3, hcell⟩
      · simp at hlt
      obtain ⟨c0, c1, c2, c3⟩ := hcell k hlt
      clear hcell
      cases hok : okJob js[k]
      · go_wp2_with fail
        refine (l06Job_any js[k] b (off + k * 4) _ c0 c1 c2 c3).mono ?_
        rintro e w' ⟨rfl, rfl⟩
        go_wp2
        go_ret
        exact ⟨ret_bool (by rw [areJobs, ← H.out, HD.out, List.all_cons, hok]; simp), rfl⟩
      · go_wp2_with fail
        refine (l06Job_any js[k] b (off + k * 4) _ c0 c1 c2 c3).mono ?_
        rintro e w' ⟨rfl, rfl⟩
        go_wp2
        go_round
        case rel => exact ⟨k + 1, by omega, by go_num, Lib.hid (by rw [← H.out, HD.out, List.all_cons, hok, Bool.true_and])⟩
        case measure => simp [intOf]; omega
    · have HL := Lib.hid (show js.all okJob = true by rw [← H.out, drop_len _ _ (by omega)]; rfl)
      by_cases h1 : 1 ≤ js.length
      · by_cases h2 : js.length ≤ 12
        all_goals
          go_wp2
          go_ret
          exact ⟨ret_bool (by rw [areJobs, HL.out, inB]; simp; omega), rfl⟩
      · go_wp2
        go_ret
        exact ⟨ret_bool (by rw [areJobs, HL.out, inB]; simp; omega), rfl⟩
set_option maxHeartbeats 1600000 in
set_option maxRecDepth 100000 in
theorem implAreJobs_any (w : World) {l h : Nat} (v : Value) (js : List JobD) (hv : Jobs w l h v js) (hh : h ≤ w.heap.size) (hz : js.length ≤ 1048576) :
    Calls Try.prog 55 #[v] w fun e w' => e = .returned (.bool (areJobs js)) ∧ Below w.heap.size w w' := by
  obtain ⟨a, cap, rfl, hc1, hc2, hd⟩ := hv.out
  have hz' : js.length ≤ 17592186043904 := by omega
  cases h1 : inB 1 12 js.length
  · go_enter Try.func55, Try.ntmps55
    go_wp2_with (first | (go_at_call 87; refine (size_any _ hz' _).mono ?_; rintro e w' ⟨rfl, rfl⟩) | (go_at_call 44; refine (within_any _ _ _ _).mono ?_; rintro e w' ⟨rfl, rfl⟩))
    go_ret
    exact ⟨ret_bool (by rw [areJobs, h1, Bool.false_and]), Below.refl _ _⟩
  · have HE := Lib.hid (show areJobs js = js.all okJob by rw [areJobs, h1, Bool.true_and])
    go_enter Try.func55, Try.ntmps55
    go_wp2_with (first | (go_at_call 87; refine (size_any _ hz' _).mono ?_; rintro e w' ⟨rfl, rfl⟩) | (go_at_call 44; refine (within_any _ _ _ _).mono ?_; rintro e w' ⟨rfl, rfl⟩))
    go_loopw [12] (fun i wr => ∃ k : Nat, k ≤ js.length ∧ i = .int .i64 k ∧ Hid ((js.drop k).all okJob = js.all okJob) ∧ Below w.heap.size w wr) (fun i _ => js.length - (intOf i).toNat)
    case atStart => exact ⟨0, Nat.zero_le _, rfl, Lib.hid (by simp), Below.refl _ _⟩
    case round =>
      obtain ⟨k, hk, rfl, H, hb⟩ := hrel
      by_cases hlt : k < js.length
      · have HD := Lib.hid (drop_cons js k hlt)
        rcases hd with rfl | ⟨b, off, rfl, hb1, hb2, hb3, hcell⟩
        · simp at hlt
        obtain ⟨c0, c1, c2, c3⟩ := hcell k hlt
        rw [← hb.cell (p := ⟨b, off + k * 4, none⟩) (show b < w.heap.size by omega)] at c0
        rw [← hb.cell (p := ⟨b, off + k * 4 + 1, none⟩) (show b < w.heap.size by omega)] at c1
        rw [← hb.cell (p := ⟨b, off + k * 4 + 2, none⟩) (show b < w.heap.size by omega)] at c2
        rw [← hb.cell (p := ⟨b, off + k * 4 + 3, none⟩) (show b < w.heap.size by omega)] at c3
        clear hcell
        cases h0 : inB 1 1000 js[k].x0
        case' true => cases h1 : inB 0 100000 js[k].x1
        case' true.true => cases h3 : inB 0 100000 js[k].x3
        case' true.true.true => cases h2 : inB 0 1000 js[k].x2
        case true.true.true.true =>
          go_wp2_with (go_at_call 44; refine (within_any _ _ _ _).mono ?_; rintro e w' ⟨rfl, rfl⟩)
          go_roundw
          case rel => exact ⟨k + 1, by omega, by go_num, Lib.hid (by rw [← H.out, HD.out, List.all_cons, okJob, h0, h1, h2, h3]; simp), hb.alloc hb.size _⟩
          case measure => simp [intOf]; omega
        all_goals
          go_wp2_with (go_at_call 44; refine (within_any _ _ _ _).mono ?_; rintro e w' ⟨rfl, rfl⟩)
          go_ret
          exact ⟨ret_bool (by rw [HE.out, ← H.out, HD.out, List.all_cons, okJob]; simp [*]), hb.alloc hb.size _⟩
      · go_wp2
        go_ret
        exact ⟨ret_bool (by rw [HE.out, ← H.out, drop_len _ _ (by omega)]; rfl), hb⟩
end Go.Proofs.Yteoikfddebbakaa
