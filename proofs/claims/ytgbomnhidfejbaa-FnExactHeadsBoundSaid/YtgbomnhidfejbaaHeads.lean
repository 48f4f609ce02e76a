/-
  Contracts of HeadsBound, in the reference and in the program.
-/
import Derived.Test.YtgbomnhidfejbaaJobB
namespace Go.Proofs.Ytgbomnhidfejbaa
open Go.RowKit
set_option linter.unusedVariables false

def headSum (r : Int) : List JobD → Int → Int
  | [], s => s
  | j :: rest, s => headSum r rest (if r ≤ j.x3 then s + j.x0 else s)
def headMax (js : List JobD) : List JobD → Int → Int
  | [], m => m
  | j :: rest, m => headMax js rest (max m (headSum j.x3 js j.x3))
def headsBound (js : List JobD) : Int × Bool := if areJobs js then (headMax js js 0, true) else (0, false)
set_option maxHeartbeats 1600000 in
theorem specHeadsBound_any (w : World) {l h : Nat} (v : Value) (js : List JobD) (hv : Jobs w l h v js) (hh : h ≤ w.heap.size) (hz : js.length ≤ 1048576) :
    Calls Try.prog 16 #[v] w fun e w' => e = .returned (.tuple #[.int .i64 (headsBound js).1, .bool (headsBound js).2]) ∧ Below w.heap.size w w' := by
  cases hJ : areJobs js
  · have HE := Lib.hid (show headsBound js = (0, false) by simp [headsBound, hJ])
    go_enter Try.func16, Try.ntmps16
    go_wp2_with fail
    refine (l06Are_any _ js w hv).mono ?_
    rintro e w1 ⟨rfl, rfl⟩
    go_wp2
    go_ret2
    exact ⟨ret_p HE.out, Below.refl _ _⟩
  · have HE := Lib.hid (show headsBound js = (headMax js js 0, true) by simp [headsBound, hJ])
    obtain ⟨j1, j2, j3⟩ := areJobs_iff.1 hJ
    have HOK := Lib.hid j3
    clear j3
    go_enter Try.func16, Try.ntmps16
    go_wp2_with fail
    refine (l06Are_any _ js w hv).mono ?_
    rintro e w1 ⟨rfl, rfl⟩
    obtain ⟨a, cap, rfl, hc1, hc2, hd⟩ := hv.out
    rcases hd with rfl | ⟨b, off, rfl, hb1', hb2', hb3', hcell⟩
    · simp at j1
    have Hc := Lib.hid hcell
    clear hcell
    go_wp2_with fail
    clear hJ
    go_loopw [4, 5] (fun q i wr => ∃ (k : Nat) (m : Int), k ≤ js.length ∧ i = .int .i64 k ∧ q = .int .i64 m ∧ 0 ≤ m ∧ m ≤ 112000 ∧ Hid (headMax js (js.drop k) m = headMax js js 0) ∧ Drew w wr) (fun _ i _ => js.length - (intOf i).toNat)
    case atStart => exact ⟨0, 0, Nat.zero_le _, rfl, rfl, by omega, by omega, Lib.hid rfl, Drew.refl _⟩
    case round =>
      obtain ⟨k, m, hk, rfl, rfl, hm0, hm1, H, hD⟩ := hrel
      have hcw := hD.cell
      by_cases hlt : k < js.length
      · have HD := Lib.hid (drop_cons js k hlt)
        have c3 := (Hc.out k hlt).2.2.2
        obtain ⟨⟨p0, p0'⟩, ⟨p1, p1'⟩, ⟨p2, p2'⟩, ⟨p3, p3'⟩⟩ := okJob_bounds (HOK.out js[k] (List.getElem_mem _))
        go_wp2_with fail
        clear hcw
        go_loopw [6, 7] (fun q i wq => ∃ (n : Nat) (s : Int), n ≤ js.length ∧ i = .int .i64 n ∧ q = .int .i64 s ∧ 0 ≤ s ∧ s ≤ 100000 + 1000 * (n : Int) ∧ Hid (headSum js[k].x3 (js.drop n) s = headSum js[k].x3 js js[k].x3) ∧ Drew w wq) (fun _ i _ => js.length - (intOf i).toNat)
        case atStart => exact ⟨0, _, Nat.zero_le _, rfl, rfl, by omega, by omega, Lib.hid rfl, hD⟩
        case round =>
          obtain ⟨n, s, hn, rfl, rfl, hs0, hs1, HS, hD'⟩ := hrel
          have hcw := hD'.cell
          by_cases hnt : n < js.length
          · have HDn := Lib.hid (drop_cons js n hnt)
            obtain ⟨d0, _, _, d3⟩ := Hc.out n hnt
            obtain ⟨⟨q0, q0'⟩, _, _, ⟨q3, q3'⟩⟩ := okJob_bounds (HOK.out js[n] (List.getElem_mem _))
            have hi1 : (n : Int) < (js.length : Int) := by omega
            have hi2 : (k : Int) < (js.length : Int) := by omega
            cases hq : decide (js[k].x3 ≤ js[n].x3)
            all_goals
              go_wp2_with fail
              go_quiet (fail)
              clear hi1 hi2
              go_wp2
              go_roundw
              case rel => exact ⟨n + 1, _, by omega, by go_num, rfl, by omega, by omega, Lib.hid (by rw [← HS.out, HDn.out, headSum]; simp at hq; first | rw [if_pos hq] | rw [if_neg (by omega)]), hD'.step _⟩
              case measure => simp [intOf]; omega
          · have HSe := Lib.hid (show s = headSum js[k].x3 js js[k].x3 by rw [← HS.out, drop_len js n (by omega)]; rfl)
            go_wp2_with (go_at_call 48; refine (l00Max_any _ _ _).mono ?_; rintro e w' ⟨rfl, rfl⟩)
            go_roundw
            case rel => exact ⟨k + 1, _, by omega, by go_num, rfl, by omega, by omega, Lib.hid (by rw [← H.out, HD.out, headMax, HSe.out]), hD'⟩
            case measure => simp [intOf]; omega
      · go_wp2
        go_ret2
        exact ⟨ret_p (by rw [HE.out, ← H.out, drop_len js _ (by omega), headMax]), hD.below _⟩
set_option maxHeartbeats 1600000 in
theorem implHeadsBound_any (w : World) {l h : Nat} (v : Value) (js : List JobD) (hv : Jobs w l h v js) (hh : h ≤ w.heap.size) (hz : js.length ≤ 1048576) :
    Calls Try.prog 18 #[v] w fun e w' => e = .returned (.tuple #[.int .i64 (headsBound js).1, .bool (headsBound js).2]) ∧ Below w.heap.size w w' := by
  cases hJ : areJobs js
  · have HE := Lib.hid (show headsBound js = (0, false) by simp [headsBound, hJ])
    go_enter Try.func18, Try.ntmps18
    go_wp2_with fail
    refine (implAreJobs_any w _ js hv hh hz).mono ?_
    rintro e w1 ⟨rfl, hb1⟩
    go_wp2
    go_ret2
    exact ⟨ret_p HE.out, hb1⟩
  · have HE := Lib.hid (show headsBound js = (headMax js js 0, true) by simp [headsBound, hJ])
    obtain ⟨j1, j2, j3⟩ := areJobs_iff.1 hJ
    have HOK := Lib.hid j3
    clear j3
    go_enter Try.func18, Try.ntmps18
    go_wp2_with fail
    refine (implAreJobs_any w _ js hv hh hz).mono ?_
    rintro e w1 ⟨rfl, hb1⟩
    obtain ⟨a, cap, rfl, hc1, hc2, hd⟩ := (hv.below hb1 hh).out
    rcases hd with rfl | ⟨b, off, rfl, hb1', hb2', hb3', hcell⟩
    · simp at j1
    have Hc := Lib.hid hcell
    have hbw : b < w1.heap.size := by omega
    have hs1 := hb1.size
    clear hcell hb1' hb2' hb3'
    go_wp2_with fail
    clear hJ
    go_loopw [4, 15] (fun q i wr => ∃ (k : Nat) (m : Int), k ≤ js.length ∧ i = .int .i64 k ∧ q = .int .i64 m ∧ 0 ≤ m ∧ m ≤ 112000 ∧ Hid (headMax js (js.drop k) m = headMax js js 0) ∧ Below w1.heap.size w1 wr) (fun _ i _ => js.length - (intOf i).toNat)
    case atStart => exact ⟨0, 0, Nat.zero_le _, rfl, rfl, by omega, by omega, Lib.hid rfl, Below.refl _ _⟩
    case round =>
      obtain ⟨k, m, hk, rfl, rfl, hm0, hm1, H, hB⟩ := hrel
      obtain ⟨wu, rfl⟩ : ∃ wu : World, wu = wr := ⟨_, rfl⟩
      have hbs := hB.size
      by_cases hlt : k < js.length
      · have HD := Lib.hid (drop_cons js k hlt)
        obtain ⟨c0, c1, c2, c3⟩ := Hc.out k hlt
        rw [← hB.cell (p := ⟨b, off + k * 4, none⟩) hbw] at c0
        rw [← hB.cell (p := ⟨b, off + k * 4 + 1, none⟩) hbw] at c1
        rw [← hB.cell (p := ⟨b, off + k * 4 + 2, none⟩) hbw] at c2
        rw [← hB.cell (p := ⟨b, off + k * 4 + 3, none⟩) hbw] at c3
        obtain ⟨⟨p0, p0'⟩, ⟨p1, p1'⟩, ⟨p2, p2'⟩, ⟨p3, p3'⟩⟩ := okJob_bounds (HOK.out js[k] (List.getElem_mem _))
        go_wp2_with fail
        clear c0 c1 c2 c3
        obtain ⟨wo, hwo⟩ : ∃ wo, wo = wu.alloc (.cells #[.int .i64 js[k].x0, .int .i64 js[k].x1, .int .i64 js[k].x2, .int .i64 js[k].x3] 52) := ⟨_, rfl⟩
        have hcj : wo.cell? ⟨wu.heap.size, 3, none⟩ = some (.int .i64 js[k].x3) := by rw [hwo, World.cell?_alloc_at _ _ _ _ rfl]; rfl
        have hBo : Below (wu.heap.size + 1) wo wo := Below.refl _ _
        have hBw : Below w1.heap.size w1 wo := by rw [hwo]; exact hB.alloc hbs _
        have hos : wu.heap.size + 1 = wo.heap.size := by rw [hwo]; simp
        rw [← hwo]
        have HOS := Lib.hid hos
        clear hwo hos
        go_loopw [7, 23] (fun q i wq => ∃ (n : Nat) (s : Int), n ≤ js.length ∧ i = .int .i64 n ∧ q = .int .i64 s ∧ 0 ≤ s ∧ s ≤ 100000 + 1000 * (n : Int) ∧ Hid (headSum js[k].x3 (js.drop n) s = headSum js[k].x3 js js[k].x3) ∧ Below wo.heap.size wo wq) (fun _ i _ => js.length - (intOf i).toNat)
        case atStart => exact ⟨0, _, Nat.zero_le _, rfl, rfl, by omega, by omega, Lib.hid rfl, Below.refl _ _⟩
        case round =>
          obtain ⟨n, s, hn, rfl, rfl, hs0, hs1', HS, hBq⟩ := hrel
          have hbq := hBq.size
          have hBwr : Below w1.heap.size w1 wr := hBw.trans (hBq.mono hBw.size)
          by_cases hnt : n < js.length
          · have HDn := Lib.hid (drop_cons js n hnt)
            obtain ⟨d0, d1, d2, d3⟩ := Hc.out n hnt
            rw [← hBwr.cell (p := ⟨b, off + n * 4, none⟩) hbw] at d0
            rw [← hBwr.cell (p := ⟨b, off + n * 4 + 1, none⟩) hbw] at d1
            rw [← hBwr.cell (p := ⟨b, off + n * 4 + 2, none⟩) hbw] at d2
            rw [← hBwr.cell (p := ⟨b, off + n * 4 + 3, none⟩) hbw] at d3
            have hcq : wr.cell? ⟨wu.heap.size, 3, none⟩ = some (.int .i64 js[k].x3) := by rw [hBq.cell (by have := HOS.out; simp; omega)]; exact hcj
            have hcq2 : ∀ o, (wr.alloc o).cell? ⟨wu.heap.size, 3, none⟩ = some (.int .i64 js[k].x3) := fun o => by rw [World.cell?_alloc_past _ _ _ (by have := HOS.out; simp; omega)]; exact hcq
            obtain ⟨⟨q0, q0'⟩, _, _, ⟨q3, q3'⟩⟩ := okJob_bounds (HOK.out js[n] (List.getElem_mem _))
            cases hq : decide (js[k].x3 ≤ js[n].x3)
            all_goals
              go_wp2
              go_roundw
              case rel => exact ⟨n + 1, _, by omega, by go_num, rfl, by omega, by omega, Lib.hid (by rw [← HS.out, HDn.out, headSum]; simp at hq; first | rw [if_pos hq] | rw [if_neg (by omega)]), hBq.alloc hbq _⟩
              case measure => simp [intOf]; omega
          · have HSe := Lib.hid (show s = headSum js[k].x3 js js[k].x3 by rw [← HS.out, drop_len js n (by omega)]; rfl)
            go_wp2
            go_roundw
            case rel => exact ⟨k + 1, _, by omega, by go_num, rfl, by (try split) <;> omega, by (try split) <;> omega, Lib.hid (by rw [← H.out, HD.out, headMax, HSe.out]; congr 1; first | rfl | omega | (split <;> omega)), hBwr⟩
            case measure => simp [intOf]; omega
      · go_wp2
        go_ret2
        exact ⟨ret_p (by rw [HE.out, ← H.out, drop_len js _ (by omega), headMax]), hb1.trans (hB.mono hs1)⟩
end Go.Proofs.Ytgbomnhidfejbaa
