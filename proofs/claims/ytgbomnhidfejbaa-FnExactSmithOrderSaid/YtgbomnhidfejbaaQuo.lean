/-
  The reference's order by quotients (l04Order), and SmithOrder: contracts.
-/
import Derived.Test.YtgbomnhidfejbaaDue
import Derived.Test.YtgbomnhidfejbaaOwn2
namespace Go.Proofs.Ytgbomnhidfejbaa
open Go.RowKit
set_option linter.unusedVariables false

theorem below_newN (w : World) (o : Obj) : Below w.heap.size w (w.alloc o) := (Below.refl _ _).alloc (Nat.le_refl _) o
/-- gains for each size: x stands before y if it has more -/
def quoLt (sizes gains : List Int) (x y : Int) : Bool := decide (gains.getD y.toNat 0 * sizes.getD x.toNat 0 < gains.getD x.toNat 0 * sizes.getD y.toNat 0)
set_option maxHeartbeats 2000000 in
set_option maxRecDepth 100000 in
theorem l04Order_any {l h l' h' : Nat} (v v' : Value) (keys gains : List Int) (w : World) (hv : Ints w l h v keys) (hh : h ≤ w.heap.size) (hn : keys.length ≤ 1048576) (hv' : Ints w l' h' v' gains) (hh' : h' ≤ w.heap.size) (hlen : gains.length = keys.length) (hs1 : ∀ x ∈ keys, 0 ≤ x ∧ x ≤ 100000) (hg1 : ∀ x ∈ gains, 0 ≤ x ∧ x ≤ 100000) :
    Calls Try.prog 82 #[v, v'] w fun e w' => ∃ u, e = .returned u ∧ OwnN w' w.heap.size w'.heap.size u (ordTo (quoLt keys gains) keys.length) ∧ Below w.heap.size w w' := by
  obtain ⟨a, cap, rfl, hc1, hc2, hd⟩ := hv.out
  obtain ⟨ga, gcap, rfl, gc1, gc2, gd⟩ := hv'.out
  have hgl1 : gains.length ≤ keys.length := by omega
  have hgl2 : keys.length ≤ gains.length := by omega
  have HS1 := Lib.hid hs1
  have HG1 := Lib.hid hg1
  have h0 := emptySliceN w
  clear hv hv' hs1 hg1 hlen
  go_enter Try.func82, Try.ntmps82
  go_wp2_with fail
  go_loopw [5, 6] (fun ov i wr => ∃ k : Nat, k ≤ keys.length ∧ i = .int .i64 k ∧ OwnN wr w.heap.size wr.heap.size ov (ordTo (quoLt keys gains) k) ∧ Below w.heap.size w wr) (fun _ i _ => keys.length - (intOf i).toNat)
  case atStart => exact ⟨0, Nat.zero_le _, rfl, by simpa [ordTo] using h0, below_newN _ _⟩
  case round =>
    clear h0
    obtain ⟨k, hk, rfl, ho, hb⟩ := hrel
    have hs := hb.size
    have HO := Lib.hid ho
    have hol := ordTo_len (quoLt keys gains) k
    have hidx := ordTo_idx (quoLt keys gains) k
    have hol2 : (ordTo (quoLt keys gains) k).length ≤ 1048576 := by omega
    have HOL := Lib.hid hol
    have HID := Lib.hid hidx
    clear ho hol hidx
    by_cases hlt : k < keys.length
    · have HOR : Hid (ordTo (quoLt keys gains) (k + 1) = sinkAt (quoLt keys gains) k (ordTo (quoLt keys gains) k ++ [(k : Int)])) := rfl
      generalize hOO : ordTo (quoLt keys gains) k = O at *
      go_wp2_with (at_builtin; refine wpList_app1N rfl _ _ rfl _ O rfl (k : Int) _ HO.out rfl (by constructor <;> omega) (by omega) hs ?_)
      intro v2 w3 ho2 hsm hz3 _
      have hb3 := hb.trans (hsm.below (Nat.le_refl _) hs)
      have hs3 := hb3.size
      rcases ho2.rowOf with ⟨_, e0⟩ | ⟨g, cp, e, hg1, hg2, hg3, hrow⟩
      · simp at e0
      have hlen2 : (O ++ [(k : Int)]).length = k + 1 := by rw [List.length_append, HOL.out]; rfl
      rw [hlen2] at e hrow hg2
      have hgl := hrow.ge
      have hid2 : Idx (k + 1) (O ++ [(k : Int)]) := by
        intro x hx
        rw [List.mem_append, List.mem_singleton] at hx
        rcases hx with hx | rfl
        · have := HID.out x hx; omega
        · omega
      subst e
      have HROW := Lib.hid hrow
      have HID2 := Lib.hid hid2
      rcases hd with rfl | ⟨b, off, rfl, hb1, hbb2, hbb3, hcell⟩
      · simp at hlt
      rcases gd with gd | ⟨b', off', rfl, gb1, gbb2, gbb3, gcell⟩
      · have h9 : keys.length ≤ ([] : List Int).length := by rw [← gd]; exact hgl2
        simp only [List.length_nil] at h9; omega
      have HGC : Hid (∀ (wx : World) (j : Nat), Below w.heap.size w wx → j < gains.length → wx.cell? ⟨b', off' + j, none⟩ = some (.int .i64 (gains.getD j 0))) := fun wx j hbx hj => by
        rw [hbx.cell (p := ⟨b', off' + j, none⟩) (show b' < w.heap.size by omega)]; exact gcell j hj
      clear gcell
      have HKC : Hid (∀ (wx : World) (j : Nat), Below w.heap.size w wx → j < keys.length → wx.cell? ⟨b, off + j, none⟩ = some (.int .i64 (keys.getD j 0))) := fun wx j hbx hj => by
        rw [hbx.cell (p := ⟨b, off + j, none⟩) (show b < w.heap.size by omega)]; exact hcell j hj
      clear ho2 hrow hid2 hlen2 hcell
      obtain ⟨wu, hwu⟩ : ∃ wu : World, wu = w3 := ⟨_, rfl⟩
      rw [← hwu] at hb3 hs3 HROW hg1
      rw [← hwu]
      go_wp2_with fail
      go_loopw [7] (fun jv wr => ∃ (j : Nat) (C : List Int), j ≤ k ∧ jv = .int .i64 j ∧ RowN wr w.heap.size g (k + 1) cp C ∧ Hid (sinkAt (quoLt keys gains) j C = ordTo (quoLt keys gains) (k + 1)) ∧ Hid (Idx (k + 1) C) ∧ Same g (g + 1) wu wr) (fun jv _ => (intOf jv).toNat)
      case atStart => exact ⟨k, _, Nat.le_refl _, rfl, HROW.out, Lib.hid HOR.out.symm, HID2, Same.refl _ _ _⟩
      case round =>
        obtain ⟨j, C, hj, rfl, hr, HK, HI2, hs⟩ := hrel
        have HR2 := Lib.hid hr
        have HS2 := Lib.hid hs
        have hCl := hr.length
        have hbx : Below w.heap.size w wr := hb3.trans (hs.below (by omega) (by omega))
        by_cases hj0 : 0 < j
        · obtain ⟨i, hi⟩ : ∃ i, j = i + 1 := ⟨j - 1, by omega⟩
          subst hi
          have hcj := hr.cell (show i + 1 < k + 1 by omega)
          have hci := hr.cell (show i < k + 1 by omega)
          have hfj := hr.frozen (i + 1)
          have hfi := hr.frozen i
          have hx := HI2.out _ (getD_mem (show i + 1 < C.length by omega))
          have hy := HI2.out _ (getD_mem (show i < C.length by omega))
          obtain ⟨xn, hX⟩ : ∃ xn : Nat, C.getD (i + 1) 0 = (xn : Int) := ⟨(C.getD (i + 1) 0).toNat, by omega⟩
          obtain ⟨yn, hY⟩ : ∃ yn : Nat, C.getD i 0 = (yn : Int) := ⟨(C.getD i 0).toNat, by omega⟩
          have hxn : xn < keys.length := by omega
          have hyn : yn < keys.length := by omega
          have hkx := HKC.out wr xn hbx hxn
          have hky := HKC.out wr yn hbx hyn
          have hlx := HGC.out wr xn hbx (by omega)
          have hly := HGC.out wr yn hbx (by omega)
          have hgxn : xn < gains.length := by omega
          have hgyn : yn < gains.length := by omega
          have hsx := HS1.out _ (getD_mem hxn)
          have hsy := HS1.out _ (getD_mem hyn)
          have hgx := HG1.out _ (getD_mem hgxn)
          have hgy := HG1.out _ (getD_mem hgyn)
          obtain ⟨gx, hGX⟩ : ∃ gx : Int, gains.getD xn 0 = gx := ⟨_, rfl⟩
          obtain ⟨gy, hGY⟩ : ∃ gy : Int, gains.getD yn 0 = gy := ⟨_, rfl⟩
          obtain ⟨kx, hKX⟩ : ∃ kx : Int, keys.getD xn 0 = kx := ⟨_, rfl⟩
          obtain ⟨ky, hKY⟩ : ∃ ky : Int, keys.getD yn 0 = ky := ⟨_, rfl⟩
          rw [hKX] at hkx hsx
          rw [hKY] at hky hsy
          rw [hGX] at hlx hgx
          rw [hGY] at hly hgy
          have HKX := Lib.hid hKX
          have HKY := Lib.hid hKY
          have HGX := Lib.hid hGX
          have HGY := Lib.hid hGY
          obtain ⟨P1, hP1⟩ : ∃ P : Int, gx * ky = P := ⟨_, rfl⟩
          obtain ⟨P2, hP2⟩ : ∃ P : Int, gy * kx = P := ⟨_, rfl⟩
          have hp1a : 0 ≤ P1 := by rw [← hP1]; exact Int.mul_nonneg hgx.1 hsy.1
          have hp2a : 0 ≤ P2 := by rw [← hP2]; exact Int.mul_nonneg hgy.1 hsx.1
          have hp1b : P1 ≤ 10000000000 := by rw [← hP1]; exact Int.mul_le_mul hgx.2 hsy.2 hsy.1 (by omega)
          have hp2b : P2 ≤ 10000000000 := by rw [← hP2]; exact Int.mul_le_mul hgy.2 hsx.2 hsx.1 (by omega)
          have HP1 := Lib.hid hP1
          have HP2 := Lib.hid hP2
          have hw1 : IntKind.i64.wrap (gx * ky) = P1 := by rw [hP1]; exact IntWalk.i64_in _ (by omega)
          have hw2 : IntKind.i64.wrap (gy * kx) = P2 := by rw [hP2]; exact IntWalk.i64_in _ (by omega)
          clear hKX hKY hGX hGY hP1 hP2 hsx hsy hgx hgy
          have HSW : Hid (swapAt C i = (C.set (i + 1) (C.getD i 0)).set i (C.getD (i + 1) 0)) := rfl
          have hwr : IntKind.i64.wrap (((i + 1 : Nat) : Int) - 1) = (i : Int) := by rw [show ((i + 1 : Nat) : Int) - 1 = (i : Int) by omega]; exact IntWalk.i64_in _ (by omega)
          have hwr2 : IntKind.i64.wrap ((i : Int) + 1 - 1) = (i : Int) := by rw [show (i : Int) + 1 - 1 = (i : Int) by omega]; exact IntWalk.i64_in _ (by omega)
          have hin1 : (0 : Int) ≤ (i : Int) := by omega
          have hin2 : (i : Int) < ((k : Int) + 1) := by omega
          have hin3 : (0 : Int) ≤ (i : Int) + 1 := by omega
          have hin4 : (i : Int) + 1 < ((k : Int) + 1) := by omega
          have hin5 : ((i : Int) + 1).toNat = i + 1 := by omega
          have hin6 : i < k + 1 := by omega
          have hin7 : i + 1 < k + 1 := by omega
          have hin8 : i < k := by omega
          have hgt : (0 : Int) < (i : Int) + 1 := by omega
          rw [hX] at hcj
          rw [hY] at hci
          rw [hX, hY] at HSW
          have hst1 : (wr.setCell ⟨g, i + 1, none⟩ (.int .i64 (yn : Int))).cell? ⟨g, i, none⟩ = some (.int .i64 (yn : Int)) := by
            have := (HR2.out.stored (i + 1) (yn : Int)).cell (show i < k + 1 by omega)
            rw [this]; rw [← hY]; simp [List.getD]
          have hst2 : (wr.setCell ⟨g, i + 1, none⟩ (.int .i64 (yn : Int))).frozen? ⟨g, i, none⟩ = false := (HR2.out.stored (i + 1) (yn : Int)).frozen i
          have HX := Lib.hid hX
          have HY := Lib.hid hY
          clear hr hs hx hy hX hY
          cases hc : decide (P2 < P1)
          · have HN : Hid (sinkAt (quoLt keys gains) (i + 1) C = C) := sinkAt_no (by rw [HX.out, HY.out, quoLt, Int.toNat_natCast, Int.toNat_natCast, HKX.out, HKY.out, HGX.out, HGY.out, HP1.out, HP2.out]; exact hc)
            go_wp2_with fail
            go_quiet (fail)
            go_wp2
            go_roundw
            case rel =>
              refine ⟨k + 1, by omega, by go_num, ?_, hbx.trans ((Drew.one _ _).below _)⟩
              have hro := ((HR2.out.drewN nq).own (HI2.out.i64 (by omega)) (by omega) (show g < (wr.drewN nq).heap.size by have := HR2.out.lt; exact this) (Nat.le_refl _))
              rw [← HK.out, HN.out]
              exact hro
            case measure => (simp [intOf]; try omega)
          · have HN : Hid (sinkAt (quoLt keys gains) (i + 1) C = sinkAt (quoLt keys gains) i (swapAt C i)) := sinkAt_yes (by rw [HX.out, HY.out, quoLt, Int.toNat_natCast, Int.toNat_natCast, HKX.out, HKY.out, HGX.out, HGY.out, HP1.out, HP2.out]; exact hc)
            have HIS : Hid (Idx (k + 1) (swapAt C i)) := swapAt_idx HI2.out (by omega)
            go_wp2_with fail
            go_quiet (fail)
            go_wp2
            go_roundw
            case rel =>
              refine ⟨i, swapAt C i, by omega, by go_num, ?_, Lib.hid (by rw [← HK.out, HN.out]), HIS.out, ?_⟩
              · rw [HSW.out]
                exact ((HR2.out.stored (i + 1) _).stored i _).drewN _
              · exact ((HS2.out.setCell (p := ⟨g, i + 1, none⟩) (Nat.le_refl _) (Nat.lt_succ_self _) _).setCell (p := ⟨g, i, none⟩) (Nat.le_refl _) (Nat.lt_succ_self _) _).drewN _
            case measure => (simp [intOf]; try omega)
        · obtain rfl : j = 0 := by omega
          have hgt : ¬ (0 : Int) < 0 := by omega
          go_wp2_with fail
          go_quiet (fail)
          go_wp2
          go_roundw
          case rel =>
            refine ⟨k + 1, by omega, by go_num, ?_, hbx.trans ((Drew.one _ _).below _)⟩
            have hro := ((HR2.out.drewN nq).own (HI2.out.i64 (by omega)) (by omega) (show g < (wr.drewN nq).heap.size by have := HR2.out.lt; exact this) (Nat.le_refl _))
            have e : C = ordTo (quoLt keys gains) (k + 1) := HK.out
            rw [← e]
            exact hro
          case measure => (simp [intOf]; try omega)
    · obtain rfl : k = keys.length := by omega
      go_wp2
      go_ret
      exact ⟨_, rfl, HO.out, hb⟩
def longs (js : List JobD) : List Int := js.map JobD.x0
def weights (js : List JobD) : List Int := js.map JobD.x2
theorem longs_snoc (js : List JobD) (k : Nat) (hk : k < js.length) : longs (js.take (k + 1)) = longs (js.take k) ++ [js[k].x0] := by
  rw [List.take_succ_eq_append_getElem hk]; simp only [longs, List.map_append, List.map_cons, List.map_nil]
theorem weights_snoc (js : List JobD) (k : Nat) (hk : k < js.length) : weights (js.take (k + 1)) = weights (js.take k) ++ [js[k].x2] := by
  rw [List.take_succ_eq_append_getElem hk]; simp only [weights, List.map_append, List.map_cons, List.map_nil]
theorem longs_getD (js : List JobD) (i : Nat) (hi : i < js.length) : (longs js).getD i 0 = js[i].x0 := by simp [longs, List.getD, hi]
theorem weights_getD (js : List JobD) (i : Nat) (hi : i < js.length) : (weights js).getD i 0 = js[i].x2 := by simp [weights, List.getD, hi]
def smithL (js : List JobD) : List Int := ordTo (quoLt (longs js) (weights js)) js.length
def smithOrder (js : List JobD) : List Int × Bool := if areJobs js then (smithL js, true) else ([], false)
def quoCmp (sizes gains : List Int) (a b : Int) : Int := cmpI (gains.getD b.toNat 0 * sizes.getD a.toNat 0) (gains.getD a.toNat 0 * sizes.getD b.toNat 0)
theorem quoCmp_lt (sizes gains : List Int) : ltOf (quoCmp sizes gains) = quoLt sizes gains := by
  funext x y; unfold ltOf quoCmp quoLt; exact cmpI_lt _ _
theorem jobs_ok {js : List JobD} (h : areJobs js = true) : ∀ j ∈ js, okJob j = true := by
  simp only [areJobs, Bool.and_eq_true] at h
  exact List.all_eq_true.1 h.2
set_option maxHeartbeats 2000000 in
set_option maxRecDepth 100000 in
theorem specSmithOrder_any (w : World) {l h : Nat} (v : Value) (js : List JobD) (hv : Jobs w l h v js) (hh : h ≤ w.heap.size) (hz : js.length ≤ 1048576) :
    Calls Try.prog 45 #[v] w fun e w' => ∃ r, e = .returned (.tuple #[r, .bool (smithOrder js).2]) ∧ OwnI w' w.heap.size w'.heap.size r (smithOrder js).1 ∧ Below w.heap.size w w' := by
  cases hj : areJobs js
  · have HE := Lib.hid (show smithOrder js = ([], false) by simp [smithOrder, hj])
    go_enter Try.func45, Try.ntmps45
    go_wp2_with fail
    refine (l06Are_any v js w hv).mono ?_
    rintro e w1 ⟨rfl, rfl⟩
    rw [hj]
    go_wp2
    go_ret2
    exact ⟨_, by rw [HE.out]; rfl, by rw [HE.out]; exact OwnI.nil _ _ _ (Nat.le_refl _), Below.refl _ _⟩
  have HE := Lib.hid (show smithOrder js = (smithL js, true) by simp [smithOrder, hj])
  have hl := areJobs_len hj
  have HOK := Lib.hid (jobs_ok hj)
  have HRNG := Lib.hid hv.rng
  have HJ := Lib.hid hv
  obtain ⟨a, cap, rfl, hc1, hc2, hd⟩ := hv.out
  clear hv
  go_enter Try.func45, Try.ntmps45
  go_wp2_with fail
  refine (l06Are_any _ js w HJ.out).mono ?_
  rintro e w1 ⟨rfl, rfl⟩
  rw [hj]
  have h0 := emptySlice w
  have hb0 := below_newN w (.cells #[] 2)
  obtain ⟨W1, hW1⟩ : ∃ W, W = w.alloc (.cells #[] 2) := ⟨_, rfl⟩
  rw [← hW1] at h0 hb0
  have hs1 : W1.heap.size = w.heap.size + 1 := by rw [hW1]; simp
  have h1 := emptySlice W1
  have hb1 := below_newN W1 (.cells #[] 2)
  obtain ⟨W2, hW2⟩ : ∃ W, W = W1.alloc (.cells #[] 2) := ⟨_, rfl⟩
  rw [← hW2] at h1 hb1
  have hs2 : W2.heap.size = w.heap.size + 2 := by rw [hW2]; simp [hs1]
  have H0 := Lib.hid ((h0.below hb1 (by omega)).mono (Nat.le_refl _) (show w.heap.size + 1 ≤ W2.heap.size by omega) (Nat.le_refl _))
  have H1 := Lib.hid (h1.mono (show w.heap.size ≤ W1.heap.size by omega) (show W1.heap.size + 1 ≤ W2.heap.size by omega) (Nat.le_refl _))
  have HB2 := Lib.hid (hb0.trans (hb1.mono (by omega)))
  have hne : w.heap.size ≠ W1.heap.size := by omega
  rw [hs1] at H1
  clear h0 h1 hb0 hb1
  go_wp2_with fail
  rw [← hW1, ← hW2]
  clear hW1 hW2
  go_loopw [4, 5, 6] (fun lv gv i wr => ∃ k : Nat, k ≤ js.length ∧ i = .int .i64 k ∧ OwnI wr w.heap.size wr.heap.size lv (longs (js.take k)) ∧ OwnI wr w.heap.size wr.heap.size gv (weights (js.take k)) ∧ Hid (∀ p, lv.ownBlock = some p → gv.ownBlock ≠ some p) ∧ Below w.heap.size w wr) (fun _ _ i _ => js.length - (intOf i).toNat)
  case atStart => exact ⟨0, Nat.zero_le _, rfl, by simpa [longs] using H0.out, by simpa [weights] using H1.out, Lib.hid (by intro p hp hq; simp [Value.ownBlock] at hp hq; omega), HB2.out⟩
  case round =>
    clear H0 H1 HB2
    obtain ⟨k, hk, rfl, hol, hog, HAP, hb⟩ := hrel
    have hs := hb.size
    have HOL := Lib.hid hol
    have HOG := Lib.hid hog
    have hll : (longs (js.take k)).length ≤ k := by simp [longs]; omega
    have hgl : (weights (js.take k)).length ≤ k := by simp [weights]; omega
    clear hol hog
    by_cases hlt : k < js.length
    · have HS1 := Lib.hid (longs_snoc js k hlt)
      have HS2 := Lib.hid (weights_snoc js k hlt)
      rcases hd with rfl | ⟨b, off, rfl, hb1, hb2, hb3, hcell⟩
      · simp at hlt
      obtain ⟨c0, _, c2, _⟩ := hcell k hlt
      have HC2 : Hid (∀ wx, Below w.heap.size w wx → wx.cell? ⟨b, off + k * 4 + 2, none⟩ = some (.int .i64 js[k].x2)) := fun wx hx => by rw [hx.cell (p := ⟨b, off + k * 4 + 2, none⟩) (show b < w.heap.size by omega)]; exact c2
      rw [← hb.cell (p := ⟨b, off + k * 4, none⟩) (show b < w.heap.size by omega)] at c0
      have HRG := Lib.hid (HRNG.out js[k] (List.getElem_mem _))
      clear hcell c2
      go_wp2_with (at_builtin; refine wpList_app1K rfl _ _ rfl _ (longs (js.take k)) rfl js[k].x0 _ HOL.out rfl HRG.out.1 (by omega) hs ?_)
      intro v2 w3 ho2 hkp hsm hz3 hbk
      have hb3 := hb.trans (hsm.below (Nat.le_refl _) hs)
      have hs3 := hb3.size
      have hog3 := HOG.out.beside (show wr.heap.size ≤ w3.heap.size by omega) (show wr.heap.size ≤ w3.heap.size by omega) hkp (fun p hp hq => HAP.out p hq hp)
      have HAP3 : Hid (∀ p, v2.ownBlock = some p → u5.ownBlock ≠ some p) := by
        intro p hp hq
        rcases hbk with hbk | hbk
        · exact HAP.out p (by rw [← hbk]; exact hp) hq
        · rw [hbk] at hp; cases hp
          have := HOG.out.own.blk _ hq; omega
      have HO2 := Lib.hid ho2
      have HOG3 := Lib.hid hog3
      have HB3 := Lib.hid hb3
      have hc2' := HC2.out w3 hb3
      clear ho2 hog3 hkp hbk hb3
      go_wp2_with (at_builtin; refine wpList_app1K rfl _ _ rfl _ (weights (js.take k)) rfl js[k].x2 _ HOG3.out rfl HRG.out.2.2.1 (by omega) hs3 ?_)
      intro v4 w4 ho4 hkp4 hsm4 hz4 hbk4
      have hb4 := HB3.out.trans (hsm4.below (Nat.le_refl _) hs3)
      have hol4 := HO2.out.beside (show w3.heap.size ≤ w4.heap.size by omega) (show w3.heap.size ≤ w4.heap.size by omega) hkp4 (fun p hp hq => HAP3.out p hp hq)
      have HAP4 : Hid (∀ p, v2.ownBlock = some p → v4.ownBlock ≠ some p) := by
        intro p hp hq
        rcases hbk4 with hbk4 | hbk4
        · exact HAP3.out p hp (by rw [← hbk4]; exact hq)
        · rw [hbk4] at hq; cases hq
          have := HO2.out.own.blk _ hp; omega
      have HOL4 := Lib.hid hol4
      have HO4 := Lib.hid ho4
      have HB4 := Lib.hid hb4
      clear ho4 hol4 hkp4 hbk4 hb4
      go_wp2
      go_roundw
      case rel => exact ⟨k + 1, by omega, by go_num, by rw [HS1.out]; exact HOL4.out, by rw [HS2.out]; exact HO4.out, HAP4, HB4.out⟩
      case measure => simp [intOf]; omega
    · obtain rfl : k = js.length := by omega
      rw [List.take_length] at HOL HOG
      have HLL : Hid ((longs js).length = js.length) := by simp [Hid, longs]
      have hlb : ∀ x ∈ longs js, 0 ≤ x ∧ x ≤ 100000 := by
        intro x hx
        simp only [longs, List.mem_map] at hx
        obtain ⟨j, hj', rfl⟩ := hx
        have := (okJob_bounds (HOK.out j hj')).1; omega
      have hgb : ∀ x ∈ weights js, 0 ≤ x ∧ x ≤ 100000 := by
        intro x hx
        simp only [weights, List.mem_map] at hx
        obtain ⟨j, hj', rfl⟩ := hx
        have := (okJob_bounds (HOK.out j hj')).2.2.1; omega
      have HQ := Lib.hid (l04Order_any _ _ (longs js) (weights js) wr HOL.out.rd (Nat.le_refl _) (by rw [HLL.out]; omega) HOG.out.rd (Nat.le_refl _) (by simp [longs, weights]) hlb hgb)
      rw [HLL.out] at HQ
      clear hlb hgb
      go_wp2_with fail
      refine HQ.out.mono ?_
      rintro e w2 ⟨u, rfl, ho2, hb2⟩
      have hs2' := hb2.size
      have hsl := ordTo_len (quoLt (longs js) (weights js)) js.length
      have HID := Lib.hid (ordTo_idx (quoLt (longs js) (weights js)) js.length)
      have HSM : Hid (smithL js = ordTo (quoLt (longs js) (weights js)) js.length) := rfl
      generalize ordTo (quoLt (longs js) (weights js)) js.length = S at *
      have HO2 := Lib.hid ho2
      obtain ⟨sa, sc, e, sc1, sc2, sd⟩ := ho2.rd.out
      subst e
      have h0 := emptySlice w2
      have hb0 := below_newN w2 (.cells #[] 2)
      have HBW := Lib.hid (hb.trans (hb2.mono hs))
      clear ho2
      go_wp2_with fail
      go_loopw [8, 9] (fun ov i wx => ∃ q : Nat, q ≤ S.length ∧ i = .int .i64 q ∧ OwnI wx w2.heap.size wx.heap.size ov (S.take q) ∧ Below w2.heap.size w2 wx) (fun _ i _ => S.length - (intOf i).toNat)
      case atStart => exact ⟨0, Nat.zero_le _, rfl, by simpa using h0, hb0⟩
      case round =>
        clear h0 hb0
        obtain ⟨q, hq, rfl, hox, hbx⟩ := hrel
        have hsx := hbx.size
        have HOX := Lib.hid hox
        have htl : (S.take q).length ≤ q := List.length_take_le _ _
        clear hox
        by_cases hql : q < S.length
        · have HT := Lib.hid (show S.take (q + 1) = S.take q ++ [S[q]] from List.take_succ_eq_append_getElem hql)
          rcases sd with sd | ⟨sb, so, rfl, sb1, sb2, sb3, scell⟩
          · rw [sd] at hql; simp at hql
          have hcq : wr.cell? ⟨sb, so + q, none⟩ = some (.int .i64 S[q]) := by
            rw [hbx.cell (p := ⟨sb, so + q, none⟩) (show sb < w2.heap.size by omega)]
            have := scell q hql; simpa [List.getD, hql] using this
          have hI : I64 S[q] := HID.out.i64 (by omega) _ (List.getElem_mem _)
          have HI := Lib.hid hI
          clear scell hI
          go_wp2_with (at_builtin; refine wpList_app1 rfl _ _ rfl _ (S.take q) rfl S[q] _ HOX.out rfl HI.out (by omega) hsx ?_)
          intro v2 w5 ho5 hsm5 hz5 _
          have HO5 : Hid (OwnI w5 w2.heap.size w5.heap.size v2 (S.take (q + 1))) := by first | exact ho5 | (rw [Hid, HT.out]; exact ho5)
          clear ho5
          go_wp2
          go_roundw
          case rel => exact ⟨q + 1, by omega, by go_num, HO5.out, hbx.trans (hsm5.below (Nat.le_refl _) hsx)⟩
          case measure => simp [intOf]; omega
        · obtain rfl : q = S.length := by omega
          rw [List.take_length] at HOX
          go_wp2
          go_ret2
          exact ⟨_, by rw [HE.out]; rfl, by rw [HE.out, HSM.out]; exact HOX.out.mono (by omega) (Nat.le_refl _) (Nat.le_refl _), HBW.out.trans (hbx.mono (by omega))⟩
set_option maxHeartbeats 800000 in
set_option maxRecDepth 100000 in
theorem smithCmp_any {l h p : Nat} (v : Value) (js : List JobD) (w : World) (hp : w.cell? ⟨p, 0, none⟩ = some v) (hv : Jobs w l h v js) (hok : ∀ j ∈ js, okJob j = true) (a b : Int) (ha : 0 ≤ a) (ha2 : a < (js.length : Int)) (hb : 0 ≤ b) (hb2 : b < (js.length : Int)) (hz : js.length ≤ 1048576) :
    Calls Try.prog 83 #[.int .i64 a, .int .i64 b, .pointer (some ⟨p, 0, none⟩)] w fun e w' => e = .returned (.int .i64 (quoCmp (longs js) (weights js) a b)) ∧ Drew w w' := by
  obtain ⟨an, rfl⟩ : ∃ an : Nat, a = (an : Int) := ⟨a.toNat, by omega⟩
  obtain ⟨bn, rfl⟩ : ∃ bn : Nat, b = (bn : Int) := ⟨b.toNat, by omega⟩
  have h1 : an < js.length := by omega
  have h2 : bn < js.length := by omega
  obtain ⟨va, cap, rfl, hc1, hc2, hd⟩ := hv.out
  rcases hd with hd | ⟨blk, off, rfl, hb1, hbb2, hb3, hcell⟩
  · rw [hd] at h1; simp at h1
  obtain ⟨ca0, _, ca2, _⟩ := hcell an h1
  obtain ⟨cb0, _, cb2, _⟩ := hcell bn h2
  have ba := okJob_bounds (hok js[an] (List.getElem_mem _))
  have bb := okJob_bounds (hok js[bn] (List.getElem_mem _))
  obtain ⟨P1, hP1⟩ : ∃ P : Int, js[bn].x2 * js[an].x0 = P := ⟨_, rfl⟩
  obtain ⟨P2, hP2⟩ : ∃ P : Int, js[an].x2 * js[bn].x0 = P := ⟨_, rfl⟩
  have hp1a : 0 ≤ P1 := by rw [← hP1]; exact Int.mul_nonneg bb.2.2.1.1 (by omega)
  have hp2a : 0 ≤ P2 := by rw [← hP2]; exact Int.mul_nonneg ba.2.2.1.1 (by omega)
  have hp1b : P1 ≤ 1000000 := by rw [← hP1]; exact Int.mul_le_mul bb.2.2.1.2 ba.1.2 (by omega) (by omega)
  have hp2b : P2 ≤ 1000000 := by rw [← hP2]; exact Int.mul_le_mul ba.2.2.1.2 bb.1.2 (by omega) (by omega)
  have HE := Lib.hid (show quoCmp (longs js) (weights js) (an : Int) (bn : Int) = cmpI P1 P2 by
    unfold quoCmp; rw [Int.toNat_natCast, Int.toNat_natCast, longs_getD _ _ h1, longs_getD _ _ h2, weights_getD _ _ h1, weights_getD _ _ h2, hP1, hP2])
  have hw1 : IntKind.i64.wrap (js[bn].x2 * js[an].x0) = P1 := by rw [hP1]; exact IntWalk.i64_in _ (by omega)
  have hw2 : IntKind.i64.wrap (js[an].x2 * js[bn].x0) = P2 := by rw [hP2]; exact IntWalk.i64_in _ (by omega)
  clear hcell hv ba bb hP1 hP2 hok
  go_enter Try.func83, Try.ntmps83
  go_wp2_with fail
  go_quiet ((go_at_call 79; exact quiet_same (compare_any _ _ _)))
  go_wp2
  go_ret
  exact ⟨ret_int HE.out.symm, Drew.one _ _⟩
set_option maxHeartbeats 1600000 in
set_option maxRecDepth 100000 in
theorem implSmithOrder_any (w : World) {l h : Nat} (v : Value) (js : List JobD) (hv : Jobs w l h v js) (hh : h ≤ w.heap.size) (hz : js.length ≤ 1048576) :
    Calls Try.prog 46 #[v] w fun e w' => ∃ r, e = .returned (.tuple #[r, .bool (smithOrder js).2]) ∧ OwnI w' w.heap.size w'.heap.size r (smithOrder js).1 ∧ Below w.heap.size w w' := by
  obtain ⟨va, cap, rfl, hc1, hc2, _⟩ := hv.out
  obtain ⟨W, hW⟩ : ∃ W, W = w.alloc (.cells #[.slice va js.length cap] 26) := ⟨_, rfl⟩
  have hBW : Below w.heap.size w W := by rw [hW]; exact below_newW _ _
  have hsW : w.heap.size < W.heap.size := by rw [hW]; simp
  have hbx : W.cell? ⟨w.heap.size, 0, none⟩ = some (.slice va js.length cap) := by rw [hW]; exact one_new _ _ _
  have HJ := Lib.hid (hv.below hBW hh)
  have HBX := Lib.hid hbx
  clear hv
  cases hj : areJobs js
  · have HE := Lib.hid (show smithOrder js = ([], false) by simp [smithOrder, hj])
    go_enter Try.func46, Try.ntmps46
    go_wp2_with fail
    rw [← hW]
    clear hW
    go_wp2_with fail
    refine (implAreJobs_any W _ js HJ.out (by omega) hz).mono ?_
    rintro e w1 ⟨rfl, hb1⟩
    rw [hj]
    go_wp2
    go_ret2
    exact ⟨_, by rw [HE.out]; rfl, by rw [HE.out]; exact OwnI.nil _ _ _ (Nat.le_refl _), hBW.trans (hb1.mono (by omega))⟩
  · have HE := Lib.hid (show smithOrder js = (smithL js, true) by simp [smithOrder, hj])
    have hl := areJobs_len hj
    have HOK := Lib.hid (jobs_ok hj)
    go_enter Try.func46, Try.ntmps46
    go_wp2_with fail
    rw [← hW]
    clear hW
    go_wp2_with fail
    refine (implAreJobs_any W _ js HJ.out (by omega) hz).mono ?_
    rintro e w1 ⟨rfl, hb1⟩
    rw [hj]
    have hs1 := hb1.size
    have hbx1 : w1.cell? ⟨w.heap.size, 0, none⟩ = some (.slice va js.length cap) := by rw [hb1.cell (p := ⟨w.heap.size, 0, none⟩) hsW]; exact HBX.out
    have HO := Lib.hid (orderBy_any 83 (fun _ _ => by kernel_rfl) #[.pointer (some ⟨w.heap.size, 0, none⟩)] (quoCmp (longs js) (weights js)) (n := js.length) w1 hl.1 (by omega) (fun wx hbw a b h1 h2 h3 h4 => by
      have hc : wx.cell? ⟨w.heap.size, 0, none⟩ = some (.slice va js.length cap) := by rw [hbw.cell (p := ⟨w.heap.size, 0, none⟩) (show w.heap.size < w1.heap.size by omega)]; exact hbx1
      exact smithCmp_any _ js wx hc ((HJ.out.below hb1 (by omega)).below hbw (by omega)) HOK.out a b h1 h2 h3 h4 hz))
    rw [quoCmp_lt] at HO
    clear hbx
    go_wp2_with fail
    refine HO.out.mono ?_
    rintro e w2 ⟨u, rfl, ho, hb⟩
    have HO2 := Lib.hid ho
    clear ho
    go_wp2
    go_ret2
    exact ⟨_, by rw [HE.out]; rfl, by rw [HE.out]; exact HO2.out.mono (by omega) (Nat.le_refl _) (Nat.le_refl _), hBW.trans ((hb1.trans (hb.mono hs1)).mono (by omega))⟩
end Go.Proofs.Ytgbomnhidfejbaa
