/-
  Contracts of SameForm, in the reference and in the program.
-/
import Derived.Test.YtcpbgjnijhcpkaaForm
import Derived.Test.YtcpbgjnijhcpkaaNum
import Derived.StillTailTactics
namespace Go.Proofs.Ytcpbgjnijhcpkaa
open Go.RowKit
set_option linter.unusedVariables false
set_option maxRecDepth 100000

set_option maxHeartbeats 400000 in
set_option maxRecDepth 100000 in
theorem slicesEqual_any {l h l' h' : Nat} (v u : Value) (xs ys : List Int) (w : World) (hv : Ints w l h v xs) (hu : Ints w l' h' u ys) :
    Calls Try.prog 116 #[v, u] w fun e w' => e = .returned (.bool (decide (xs = ys))) ∧ Drew w w' := by
  obtain ⟨a, cap, rfl, hc1, hc2, hd⟩ := hv.out
  obtain ⟨a', cap', rfl, gc1, gc2, gd⟩ := hu.out
  by_cases hlen : xs.length = ys.length
  · have hne : ((xs.length : Int) != (ys.length : Int)) = false := by simp [hlen]
    have Hl := Lib.hid hlen
    clear hlen
    go_enter Try.func116, Try.ntmps116
    go_wp2_with fail
    go_loopw [13] (fun i wr => ∃ k : Nat, k ≤ xs.length ∧ i = .int .i64 k ∧ Hid (xs = ys ↔ xs.drop k = ys.drop k) ∧ Drew w wr) (fun i _ => xs.length - (intOf i).toNat)
    case atStart => exact ⟨0, Nat.zero_le _, rfl, Lib.hid (by simp), Drew.refl _⟩
    case round =>
      obtain ⟨k, hk, rfl, H, hD⟩ := hrel
      have hcw := hD.cell
      by_cases hlt : k < xs.length
      · have glt : k < ys.length := by rw [← Hl.out]; exact hlt
        have HD := Lib.hid (drop_cons xs k hlt)
        have GD := Lib.hid (drop_cons ys k glt)
        rcases hd with rfl | ⟨b, off, rfl, hb1, hb2, hb3, hcell⟩
        · simp at hlt
        rcases gd with rfl | ⟨b', off', rfl, gb1, gb2, gb3, gcell⟩
        · simp at glt
        have hck := hcell k hlt
        have gck := gcell k glt
        clear hcell gcell
        cases hq : (xs[k] != ys[k])
        · go_wp2_with fail
          go_quiet (fail)
          go_wp2
          go_roundw
          case rel => exact ⟨k + 1, by omega, by go_num, Lib.hid (by rw [H.out, HD.out, GD.out, List.cons.injEq]; simp at hq; simp [hq]), hD.step _⟩
          case measure => simp [intOf]; omega
        · go_wp2_with fail
          go_quiet (fail)
          go_wp2
          go_ret
          exact ⟨ret_bool (decide_eq_false (by rw [H.out, HD.out, GD.out, List.cons.injEq]; simp at hq; simp [hq])).symm, hD.step _⟩
      · go_wp2
        go_ret
        exact ⟨ret_bool (decide_eq_true (by rw [H.out, drop_len _ _ (by omega), drop_len _ _ (by rw [← Hl.out]; omega)])).symm, hD⟩
  · have hne : ((xs.length : Int) != (ys.length : Int)) = true := by simp; omega
    have hxy : xs ≠ ys := fun e => hlen (by rw [e])
    go_enter Try.func116, Try.ntmps116
    go_wp2
    go_ret
    exact ⟨ret_bool (by simp [hxy]), Drew.refl _⟩
set_option maxHeartbeats 400000 in
set_option maxRecDepth 100000 in
theorem l00Same_any {l h l' h' : Nat} (v u : Value) (xs ys : List Int) (w : World) (hv : Ints w l h v xs) (hu : Ints w l' h' u ys) :
    Calls Try.prog 104 #[v, u] w fun e w' => e = .returned (.bool (decide (xs = ys))) ∧ Drew w w' := by
  obtain ⟨a, cap, rfl, hc1, hc2, hd⟩ := hv.out
  obtain ⟨a', cap', rfl, gc1, gc2, gd⟩ := hu.out
  by_cases hlen : xs.length = ys.length
  · have hne : ((xs.length : Int) != (ys.length : Int)) = false := by simp [hlen]
    have Hl := Lib.hid hlen
    clear hlen
    go_enter Try.func104, Try.ntmps104
    go_wp2_with fail
    go_loopw [5] (fun i wr => ∃ k : Nat, k ≤ xs.length ∧ i = .int .i64 k ∧ Hid (xs = ys ↔ xs.drop k = ys.drop k) ∧ Drew w wr) (fun i _ => xs.length - (intOf i).toNat)
    case atStart => exact ⟨0, Nat.zero_le _, rfl, Lib.hid (by simp), Drew.refl _⟩
    case round =>
      obtain ⟨k, hk, rfl, H, hD⟩ := hrel
      have hcw := hD.cell
      by_cases hlt : k < xs.length
      · have glt : k < ys.length := by rw [← Hl.out]; exact hlt
        have HD := Lib.hid (drop_cons xs k hlt)
        have GD := Lib.hid (drop_cons ys k glt)
        rcases hd with rfl | ⟨b, off, rfl, hb1, hb2, hb3, hcell⟩
        · simp at hlt
        rcases gd with rfl | ⟨b', off', rfl, gb1, gb2, gb3, gcell⟩
        · simp at glt
        have hck := hcell k hlt
        have gck := gcell k glt
        clear hcell gcell
        cases hq : (xs[k] != ys[k])
        · go_wp2_with fail
          go_quiet (fail)
          go_wp2
          go_roundw
          case rel => exact ⟨k + 1, by omega, by go_num, Lib.hid (by rw [H.out, HD.out, GD.out, List.cons.injEq]; simp at hq; simp [hq]), hD.step _⟩
          case measure => simp [intOf]; omega
        · go_wp2_with fail
          go_quiet (fail)
          go_wp2
          go_ret
          exact ⟨ret_bool (decide_eq_false (by rw [H.out, HD.out, GD.out, List.cons.injEq]; simp at hq; simp [hq])).symm, hD.step _⟩
      · go_wp2
        go_ret
        exact ⟨ret_bool (decide_eq_true (by rw [H.out, drop_len _ _ (by omega), drop_len _ _ (by rw [← Hl.out]; omega)])).symm, hD⟩
  · have hne : ((xs.length : Int) != (ys.length : Int)) = true := by simp; omega
    have hxy : xs ≠ ys := fun e => hlen (by rw [e])
    go_enter Try.func104, Try.ntmps104
    go_wp2
    go_ret
    exact ⟨ret_bool (by simp [hxy]), Drew.refl _⟩
set_option maxHeartbeats 1600000 in
set_option maxRecDepth 100000 in
theorem equalFunc_any {l h l' h' : Nat} (v u : Value) (xs ys : List (List Int)) (w : World) (hv : Intss w l h v xs) (hu : Intss w l' h' u ys) :
    Calls Try.prog 115 #[v, u, .func (.func 116) #[] #[]] w fun e w' => e = .returned (.bool (decide (xs = ys))) ∧ Drew w w' := by
  obtain ⟨a, cap, V, rfl, hc1, hc2, hV, hd⟩ := hv.out
  obtain ⟨a', cap', U, rfl, gc1, gc2, hU, gd⟩ := hu.out
  have HV := Lib.hid hV
  have HU := Lib.hid hU
  clear hV hU
  by_cases hlen : xs.length = ys.length
  · have hne : ((xs.length : Int) != (ys.length : Int)) = false := by simp [hlen]
    have Hl := Lib.hid hlen
    clear hlen
    go_enter Try.func115, Try.ntmps115
    go_wp2_with fail
    go_loopw [17] (fun i wr => ∃ k : Nat, k ≤ xs.length ∧ i = .int .i64 k ∧ Hid (xs = ys ↔ xs.drop k = ys.drop k) ∧ Drew w wr) (fun i _ => xs.length - (intOf i).toNat)
    case atStart => exact ⟨0, Nat.zero_le _, rfl, Lib.hid (by simp), Drew.refl _⟩
    case round =>
      obtain ⟨k, hk, rfl, H, hD⟩ := hrel
      have hcw := hD.cell
      by_cases hlt : k < xs.length
      · have glt : k < ys.length := by rw [← Hl.out]; exact hlt
        have HD := Lib.hid (drop_cons xs k hlt)
        have GD := Lib.hid (drop_cons ys k glt)
        rcases hd with hd | ⟨b, off, rfl, hb1, hb2, hb3, hcell⟩
        · rw [hd] at hlt; simp at hlt
        rcases gd with gd | ⟨b', off', rfl, gb1, gb2, gb3, gcell⟩
        · rw [gd] at glt; simp at glt
        have hck := hcell k hlt
        have gck := gcell k glt
        have hx := Lib.hid ((HV.out k hlt).drew hD)
        have hy := Lib.hid ((HU.out k glt).drew hD)
        rw [← hcw] at hck
        rw [← hcw] at gck
        clear hcell gcell hcw
        cases hq : decide (xs[k] = ys[k])
        · go_wp2_with fail
          refine (slicesEqual_any _ _ xs[k] ys[k] wr hx.out hy.out).mono ?_
          rintro e w2 ⟨rfl, hD2⟩
          rw [hq]
          go_wp2
          go_ret
          exact ⟨ret_bool (decide_eq_false (by rw [H.out, HD.out, GD.out, List.cons.injEq]; simp at hq; simp [hq])).symm, hD.trans hD2⟩
        · go_wp2_with fail
          refine (slicesEqual_any _ _ xs[k] ys[k] wr hx.out hy.out).mono ?_
          rintro e w2 ⟨rfl, hD2⟩
          rw [hq]
          go_wp2
          go_roundw
          case rel => exact ⟨k + 1, by omega, by go_num, Lib.hid (by rw [H.out, HD.out, GD.out, List.cons.injEq]; simp at hq; simp [hq]), hD.trans hD2⟩
          case measure => simp [intOf]; omega
      · go_wp2
        go_ret
        exact ⟨ret_bool (decide_eq_true (by rw [H.out, drop_len _ _ (by omega), drop_len _ _ (by rw [← Hl.out]; omega)])).symm, hD⟩
  · have hne : ((xs.length : Int) != (ys.length : Int)) = true := by simp; omega
    have hxy : xs ≠ ys := fun e => hlen (by rw [e])
    go_enter Try.func115, Try.ntmps115
    go_wp2
    go_ret
    exact ⟨ret_bool (by simp [hxy]), Drew.refl _⟩
theorem sameLists_any {l h l' h' : Nat} (v u : Value) (xs ys : List (List Int)) (w : World) (hv : Intss w l h v xs) (hu : Intss w l' h' u ys) :
    Calls Try.prog 83 #[v, u] w fun e w' => e = .returned (.bool (decide (xs = ys))) ∧ Drew w w' := by
  go_enter Try.func83, Try.ntmps83
  go_wp2_with fail
  refine (equalFunc_any v u xs ys w hv hu).mono ?_
  rintro e w2 ⟨rfl, hD⟩
  go_wp2
  go_ret
  exact ⟨rfl, hD⟩
def sameForm (f g : FormD) : Bool := decide (f = g)
theorem sameForm_eq (f g : FormD) : sameForm f g = ((f.letters == g.letters) && decide (f.clauses = g.clauses)) := by
  unfold sameForm
  rw [Bool.eq_iff_iff]
  cases f; cases g; simp
set_option maxHeartbeats 800000 in
set_option maxRecDepth 100000 in
theorem implSameForm_any (w : World) {l h l' h' : Nat} (v : Value) (f : FormD) (u : Value) (g : FormD) (hv : FormR w l h v f) (hh : h ≤ w.heap.size) (hz : SmallII f.clauses) (hu : FormR w l' h' u g) (hh' : h' ≤ w.heap.size) (hz' : SmallII g.clauses) :
    Calls Try.prog 26 #[v, u] w fun e w' => e = .returned (.bool (sameForm f g)) ∧ Below w.heap.size w w' := by
  obtain ⟨x, rfl, hx⟩ := hv.ex
  obtain ⟨y, rfl, hy⟩ := hu.ex
  obtain ⟨W, hW⟩ : ∃ W, W = (w.alloc (.cells #[.int .i64 f.letters, x] 26)).alloc (.cells #[.int .i64 g.letters, y] 26) := ⟨_, rfl⟩
  have hBW : Below w.heap.size w W := by rw [hW]; exact ((Below.refl _ _).alloc (Nat.le_refl _) _).alloc (by simp) _
  cases hq : (f.letters == g.letters)
  · go_enter Try.func26, Try.ntmps26
    go_wp2
    rw [← hW]
    go_ret
    exact ⟨ret_bool (by rw [sameForm_eq, hq, Bool.false_and]), hBW⟩
  · go_enter Try.func26, Try.ntmps26
    go_wp2_with fail
    rw [← hW]
    clear hW
    refine (sameLists_any _ _ _ _ W (hx.below hBW hh) (hy.below hBW hh')).mono ?_
    rintro e w2 ⟨rfl, hD⟩
    go_wp2
    go_ret
    exact ⟨ret_bool (by rw [sameForm_eq, hq, Bool.true_and]), hBW.trans (hD.below _)⟩
set_option maxHeartbeats 1600000 in
set_option maxRecDepth 100000 in
theorem specSameForm_any (w : World) {l h l' h' : Nat} (v : Value) (f : FormD) (u : Value) (g : FormD) (hv : FormR w l h v f) (hh : h ≤ w.heap.size) (hz : SmallII f.clauses) (hu : FormR w l' h' u g) (hh' : h' ≤ w.heap.size) (hz' : SmallII g.clauses) :
    Calls Try.prog 45 #[v, u] w fun e w' => e = .returned (.bool (sameForm f g)) ∧ Below w.heap.size w w' := by
  obtain ⟨x, rfl, hx⟩ := hv.ex
  obtain ⟨y, rfl, hy⟩ := hu.ex
  obtain ⟨W, hW⟩ : ∃ W, W = (w.alloc (.cells #[.int .i64 f.letters, x] 26)).alloc (.cells #[.int .i64 g.letters, y] 26) := ⟨_, rfl⟩
  have hBW : Below w.heap.size w W := by rw [hW]; exact ((Below.refl _ _).alloc (Nat.le_refl _) _).alloc (by simp) _
  have bx1 : BoxF W w.heap.size f.letters x := by rw [hW]; exact (BoxF.new w _ _ _).below (alloc_below _ _) (by simp)
  have bx2 : BoxF W (w.heap.size + 1) g.letters y := by rw [hW]; have := BoxF.new (w.alloc (.cells #[.int .i64 f.letters, x] 26)) g.letters y 26; simpa using this
  have hx2 := hx.below hBW hh
  have hy2 := hy.below hBW hh'
  obtain ⟨a, cap, V, rfl, hc1, hc2, hV, hd⟩ := hx2.out
  obtain ⟨a', cap', U, rfl, gc1, gc2, hU, gd⟩ := hy2.out
  have HV := Lib.hid hV
  have HU := Lib.hid hU
  have q0 := bx1.c0
  have q1 := bx1.c1
  have q2 := bx2.c0
  have q3 := bx2.c1
  clear hV hU hx hy hv hu hx2 hy2
  cases hl : (f.letters != g.letters)
  case true =>
    go_enter Try.func45, Try.ntmps45
    go_wp2
    rw [← hW]
    go_ret
    exact ⟨ret_bool (by rw [sameForm_eq]; simp at hl; simp [hl]), hBW⟩
  have Hle : Hid ((f.letters == g.letters) = true) := by simpa [Hid] using hl
  by_cases hlen : f.clauses.length = g.clauses.length
  · have hne : ((f.clauses.length : Int) != (g.clauses.length : Int)) = false := by simp [hlen]
    have Hl := Lib.hid hlen
    clear hlen
    go_enter Try.func45, Try.ntmps45
    go_wp2_with fail
    rw [← hW]
    clear hW
    go_loopw [23] (fun i wr => ∃ k : Nat, k ≤ f.clauses.length ∧ i = .int .i64 k ∧ Hid (f.clauses = g.clauses ↔ f.clauses.drop k = g.clauses.drop k) ∧ Drew W wr) (fun i _ => f.clauses.length - (intOf i).toNat)
    case atStart => exact ⟨0, Nat.zero_le _, rfl, Lib.hid (by simp), Drew.refl _⟩
    case round =>
      obtain ⟨k, hk, rfl, H, hD⟩ := hrel
      have hcw := hD.cell
      by_cases hlt : k < f.clauses.length
      · have glt : k < g.clauses.length := by rw [← Hl.out]; exact hlt
        have HD := Lib.hid (drop_cons f.clauses k hlt)
        have GD := Lib.hid (drop_cons g.clauses k glt)
        rcases hd with hd | ⟨b, off, rfl, hb1, hb2, hb3, hcell⟩
        · rw [hd] at hlt; simp at hlt
        rcases gd with gd | ⟨b', off', rfl, gb1, gb2, gb3, gcell⟩
        · rw [gd] at glt; simp at glt
        have hck := hcell k hlt
        have gck := gcell k glt
        have hx := Lib.hid ((HV.out k hlt).drew hD)
        have hy := Lib.hid ((HU.out k glt).drew hD)
        clear hcell gcell
        cases hq : decide (f.clauses[k] = g.clauses[k])
        · go_wp2_with fail
          go_quiet ((go_at_call 104; exact quiet_drew (l00Same_any _ _ _ _ _ (hx.out.drewN _) (hy.out.drewN _))))
          go_wp2
          go_ret
          exact ⟨ret_bool (by rw [sameForm_eq, Hle.out, Bool.true_and]; exact (decide_eq_false (by rw [H.out, HD.out, GD.out, List.cons.injEq]; simp at hq; simp [hq])).symm), hBW.trans ((hD.step _).below _)⟩
        · go_wp2_with fail
          go_quiet ((go_at_call 104; exact quiet_drew (l00Same_any _ _ _ _ _ (hx.out.drewN _) (hy.out.drewN _))))
          go_wp2
          go_roundw
          case rel => exact ⟨k + 1, by omega, by go_num, Lib.hid (by rw [H.out, HD.out, GD.out, List.cons.injEq]; simp at hq; simp [hq]), hD.step _⟩
          case measure => simp [intOf]; omega
      · go_wp2
        go_ret
        exact ⟨ret_bool (by rw [sameForm_eq, Hle.out, Bool.true_and]; exact (decide_eq_true (by rw [H.out, drop_len _ _ (by omega), drop_len _ _ (by rw [← Hl.out]; omega)])).symm), hBW.trans (hD.below _)⟩
  · have hne : ((f.clauses.length : Int) != (g.clauses.length : Int)) = true := by simp; omega
    have hxy : f.clauses ≠ g.clauses := fun e => hlen (by rw [e])
    go_enter Try.func45, Try.ntmps45
    go_wp2
    rw [← hW]
    go_ret
    exact ⟨ret_bool (by rw [sameForm_eq]; simp [hxy]), hBW⟩
end Go.Proofs.Ytcpbgjnijhcpkaa
