/-
  The reference's order by quotients (l04Order), and SmithOrder: contracts.
-/
import Derived.Test.YtcodlhogpmhdlaaDue
import Derived.Test.YtcodlhogpmhdlaaOwn2
namespace Go.Proofs.Ytcodlhogpmhdlaa
open Go.RowKit
set_option linter.unusedVariables false
set_option maxRecDepth 100000

theorem below_newN (w : World) (o : Obj) : Below w.heap.size w (w.alloc o) := (Below.refl _ _).alloc (Nat.le_refl _) o
/-- gains for each size: x stands before y if it has more -/
def quoLt (sizes gains : List Int) (x y : Int) : Bool := decide (gains.getD y.toNat 0 * sizes.getD x.toNat 0 < gains.getD x.toNat 0 * sizes.getD y.toNat 0)
set_option maxHeartbeats 2000000 in
set_option maxRecDepth 100000 in
theorem l04Order_any {l h l' h' : Nat} (v v' : Value) (keys gains : List Int) (w : World) (hv : Ints w l h v keys) (hh : h ≤ w.heap.size) (hn : keys.length ≤ 1048576) (hv' : Ints w l' h' v' gains) (hh' : h' ≤ w.heap.size) (hlen : gains.length = keys.length) (hs1 : ∀ x ∈ keys, 0 ≤ x ∧ x ≤ 100000) (hg1 : ∀ x ∈ gains, 0 ≤ x ∧ x ≤ 100000) :
    Calls Try.prog 118 #[v, v'] w fun e w' => ∃ u, e = .returned u ∧ OwnN w' w.heap.size w'.heap.size u (ordTo (quoLt keys gains) keys.length) ∧ Below w.heap.size w w' := by
  obtain ⟨a, cap, rfl, hc1, hc2, hd⟩ := hv.out
  obtain ⟨ga, gcap, rfl, gc1, gc2, gd⟩ := hv'.out
  have hgl1 : gains.length ≤ keys.length := by omega
  have hgl2 : keys.length ≤ gains.length := by omega
  have HS1 := Lib.hid hs1
  have HG1 := Lib.hid hg1
  have h0 := emptySliceN w
  clear hv hv' hs1 hg1 hlen
  go_enter Try.func118, Try.ntmps118
  go_wp2_with fail
  go_loopw [5, 6] (fun ov i wr => ∃ k : Nat, k ≤ keys.length ∧ i = .int .i64 k ∧ OwnN wr w.heap.size wr.heap.size ov (ordTo (quoLt keys gains) k) ∧ Below w.heap.size w wr) (fun _ i _ => keys.length - (intOf i).toNat)
  case atStart => exact ⟨0, Nat.zero_le _, rfl, by simpa [ordTo] using h0, below_newN _ _⟩
  case round =>
    clear h0
    obtain ⟨k, hk, rfl, ho, hb⟩ := hrel
    have hs := hb.size
    have HO := Lib.hid ho
    have hol := ordTo_len (quoLt keys gains) k
    have hidx := ordTo_idx (quoLt keys gains) k
    have hol2 : (ordTo (quoLt keys gains) k).length ≤ 1048576 := by omega
    have HOL := Lib.hid hol
    have HID := Lib.hid hidx
    clear ho hol hidx
    by_cases hlt : k < keys.length
    · have HOR : Hid (ordTo (quoLt keys gains) (k + 1) = sinkAt (quoLt keys gains) k (ordTo (quoLt keys gains) k ++ [(k : Int)])) := rfl
      generalize hOO : ordTo (quoLt keys gains) k = O at *
      go_wp2_with (at_builtin; refine wpList_app1N rfl _ _ rfl _ O rfl (k : Int) _ HO.out rfl (by constructor <;> omega) (by omega) hs ?_)
      intro v2 w3 ho2 hsm hz3 _
      have hb3 := hb.trans (hsm.below (Nat.le_refl _) hs)
      have hs3 := hb3.size
      rcases ho2.rowOf with ⟨_, e0⟩ | ⟨g, cp, e, hg1, hg2, hg3, hrow⟩
      · simp at e0
      have hlen2 : (O ++ [(k : Int)]).length = k + 1 := by rw [List.length_append, HOL.out]; rfl
      rw [hlen2] at e hrow hg2
      have hgl := hrow.ge
      have hid2 : Idx (k + 1) (O ++ [(k : Int)]) := by
        intro x hx
        rw [List.mem_append, List.mem_singleton] at hx
        rcases hx with hx | rfl
        · have := HID.out x hx; omega
        · omega
      subst e
      have HROW := Lib.hid hrow
      have HID2 := Lib.hid hid2
      rcases hd with rfl | ⟨b, off, rfl, hb1, hbb2, hbb3, hcell⟩
      · simp at hlt
      rcases gd with gd | ⟨b', off', rfl, gb1, gbb2, gbb3, gcell⟩
      · have h9 : keys.length ≤ ([] : List Int).length := by rw [← gd]; exact hgl2
        simp only [List.length_nil] at h9; omega
      have HGC : Hid (∀ (wx : World) (j : Nat), Below w.heap.size w wx → j < gains.length → wx.cell? ⟨b', off' + j, none⟩ = some (.int .i64 (gains.getD j 0))) := fun wx j hbx hj => by
        rw [hbx.cell (p := ⟨b', off' + j, none⟩) (show b' < w.heap.size by omega)]; exact gcell j hj
      clear gcell
      have HKC : Hid (∀ (wx : World) (j : Nat), Below w.heap.size w wx → j < keys.length → wx.cell? ⟨b, off + j, none⟩ = some (.int .i64 (keys.getD j 0))) := fun wx j hbx hj => by
        rw [hbx.cell (p := ⟨b, off + j, none⟩) (show b < w.heap.size by omega)]; exact hcell j hj
      clear ho2 hrow hid2 hlen2 hcell
      obtain ⟨wu, hwu⟩ : ∃ wu : World, wu = w3 := ⟨_, rfl⟩
      rw [← hwu] at hb3 hs3 HROW hg1
      rw [← hwu]
      go_wp2_with fail
      go_loopw [7] (fun jv wr => ∃ (j : Nat) (C : List Int), j ≤ k ∧ jv = .int .i64 j ∧ RowN wr w.heap.size g (k + 1) cp C ∧ Hid (sinkAt (quoLt keys gains) j C = ordTo (quoLt keys gains) (k + 1)) ∧ Hid (Idx (k + 1) C) ∧ Same g (g + 1) wu wr) (fun jv _ => (intOf jv).toNat)
      case atStart => exact ⟨k, _, Nat.le_refl _, rfl, HROW.out, Lib.hid HOR.out.symm, HID2, Same.refl _ _ _⟩
      case round =>
        obtain ⟨j, C, hj, rfl, hr, HK, HI2, hs⟩ := hrel
        have HR2 := Lib.hid hr
        have HS2 := Lib.hid hs
        have hCl := hr.length
        have hbx : Below w.heap.size w wr := hb3.trans (hs.below (by omega) (by omega))
        by_cases hj0 : 0 < j
        · obtain ⟨i, hi⟩ : ∃ i, j = i + 1 := ⟨j - 1, by omega⟩
          subst hi
          have hcj := hr.cell (show i + 1 < k + 1 by omega)
          have hci := hr.cell (show i < k + 1 by omega)
          have hfj := hr.frozen (i + 1)
          have hfi := hr.frozen i
          have hx := HI2.out _ (getD_mem (show i + 1 < C.length by omega))
          have hy := HI2.out _ (getD_mem (show i < C.length by omega))
          obtain ⟨xn, hX⟩ : ∃ xn : Nat, C.getD (i + 1) 0 = (xn : Int) := ⟨(C.getD (i + 1) 0).toNat, by omega⟩
          obtain ⟨yn, hY⟩ : ∃ yn : Nat, C.getD i 0 = (yn : Int) := ⟨(C.getD i 0).toNat, by omega⟩
          have hxn : xn < keys.length := by omega
          have hyn : yn < keys.length := by omega
          have hkx := HKC.out wr xn hbx hxn
          have hky := HKC.out wr yn hbx hyn
          have hlx := HGC.out wr xn hbx (by omega)
          have hly := HGC.out wr yn hbx (by omega)
          have hgxn : xn < gains.length := by omega
          have hgyn : yn < gains.length := by omega
          have hsx := HS1.out _ (getD_mem hxn)
          have hsy := HS1.out _ (getD_mem hyn)
          have hgx := HG1.out _ (getD_mem hgxn)
          have hgy := HG1.out _ (getD_mem hgyn)
          obtain ⟨gx, hGX⟩ : ∃ gx : Int, gains.getD xn 0 = gx := ⟨_, rfl⟩
          obtain ⟨gy, hGY⟩ : ∃ gy : Int, gains.getD yn 0 = gy := ⟨_, rfl⟩
          obtain ⟨kx, hKX⟩ : ∃ kx : Int, keys.getD xn 0 = kx := ⟨_, rfl⟩
          obtain ⟨ky, hKY⟩ : ∃ ky : Int, keys.getD yn 0 = ky := ⟨_, rfl⟩
          rw [hKX] at hkx hsx
          rw [hKY] at hky hsy
          rw [hGX] at hlx hgx
          rw [hGY] at hly hgy
          have HKX := Lib.hid hKX
          have HKY := Lib.hid hKY
          have HGX := Lib.hid hGX
          have HGY := Lib.hid hGY
          obtain ⟨P1, hP1⟩ : ∃ P : Int, gx * ky = P := ⟨_, rfl⟩
          obtain ⟨P2, hP2⟩ : ∃ P : Int, gy * kx = P := ⟨_, rfl⟩
          have hp1a : 0 ≤ P1 := by rw [← hP1]; exact Int.mul_nonneg hgx.1 hsy.1
          have hp2a : 0 ≤ P2 := by rw [← hP2]; exact Int.mul_nonneg hgy.1 hsx.1
          have hp1b : P1 ≤ 10000000000 := by rw [← hP1]; exact Int.mul_le_mul hgx.2 hsy.2 hsy.1 (by omega)
          have hp2b : P2 ≤ 10000000000 := by rw [← hP2]; exact Int.mul_le_mul hgy.2 hsx.2 hsx.1 (by omega)
          have HP1 := Lib.hid hP1
          have HP2 := Lib.hid hP2
          have hw1 : IntKind.i64.wrap (gx * ky) = P1 := by rw [hP1]; exact IntWalk.i64_in _ (by omega)
          have hw2 : IntKind.i64.wrap (gy * kx) = P2 := by rw [hP2]; exact IntWalk.i64_in _ (by omega)
          clear hKX hKY hGX hGY hP1 hP2 hsx hsy hgx hgy
          have HSW : Hid (swapAt C i = (C.set (i + 1) (C.getD i 0)).set i (C.getD (i + 1) 0)) := rfl
          have hwr : IntKind.i64.wrap (((i + 1 : Nat) : Int) - 1) = (i : Int) := by rw [show ((i + 1 : Nat) : Int) - 1 = (i : Int) by omega]; exact IntWalk.i64_in _ (by omega)
          have hwr2 : IntKind.i64.wrap ((i : Int) + 1 - 1) = (i : Int) := by rw [show (i : Int) + 1 - 1 = (i : Int) by omega]; exact IntWalk.i64_in _ (by omega)
          have hin1 : (0 : Int) ≤ (i : Int) := by omega
          have hin2 : (i : Int) < ((k : Int) + 1) := by omega
          have hin3 : (0 : Int) ≤ (i : Int) + 1 := by omega
          have hin4 : (i : Int) + 1 < ((k : Int) + 1) := by omega
          have hin5 : ((i : Int) + 1).toNat = i + 1 := by omega
          have hin6 : i < k + 1 := by omega
          have hin7 : i + 1 < k + 1 := by omega
          have hin8 : i < k := by omega
          have hgt : (0 : Int) < (i : Int) + 1 := by omega
          rw [hX] at hcj
          rw [hY] at hci
          rw [hX, hY] at HSW
          have hst1 : (wr.setCell ⟨g, i + 1, none⟩ (.int .i64 (yn : Int))).cell? ⟨g, i, none⟩ = some (.int .i64 (yn : Int)) := by
            have := (HR2.out.stored (i + 1) (yn : Int)).cell (show i < k + 1 by omega)
            rw [this]; rw [← hY]; simp [List.getD]
          have hst2 : (wr.setCell ⟨g, i + 1, none⟩ (.int .i64 (yn : Int))).frozen? ⟨g, i, none⟩ = false := (HR2.out.stored (i + 1) (yn : Int)).frozen i
          have HX := Lib.hid hX
          have HY := Lib.hid hY
          clear hr hs hx hy hX hY
          cases hc : decide (P2 < P1)
          · have HN : Hid (sinkAt (quoLt keys gains) (i + 1) C = C) := sinkAt_no (by rw [HX.out, HY.out, quoLt, Int.toNat_natCast, Int.toNat_natCast, HKX.out, HKY.out, HGX.out, HGY.out, HP1.out, HP2.out]; exact hc)
            go_wp2_with fail
            go_quiet (fail)
            go_wp2
            go_roundw
            case rel =>
              refine ⟨k + 1, by omega, by go_num, ?_, hbx.trans ((Drew.one _ _).below _)⟩
              have hro := ((HR2.out.drewN nq).own (HI2.out.i64 (by omega)) (by omega) (show g < (wr.drewN nq).heap.size by have := HR2.out.lt; exact this) (Nat.le_refl _))
              rw [← HK.out, HN.out]
              exact hro
            case measure => (simp [intOf]; try omega)
          · have HN : Hid (sinkAt (quoLt keys gains) (i + 1) C = sinkAt (quoLt keys gains) i (swapAt C i)) := sinkAt_yes (by rw [HX.out, HY.out, quoLt, Int.toNat_natCast, Int.toNat_natCast, HKX.out, HKY.out, HGX.out, HGY.out, HP1.out, HP2.out]; exact hc)
            have HIS : Hid (Idx (k + 1) (swapAt C i)) := swapAt_idx HI2.out (by omega)
            go_wp2_with fail
            go_quiet (fail)
            go_wp2
            go_roundw
            case rel =>
              refine ⟨i, swapAt C i, by omega, by go_num, ?_, Lib.hid (by rw [← HK.out, HN.out]), HIS.out, ?_⟩
              · rw [HSW.out]
                exact ((HR2.out.stored (i + 1) _).stored i _).drewN _
              · exact ((HS2.out.setCell (p := ⟨g, i + 1, none⟩) (Nat.le_refl _) (Nat.lt_succ_self _) _).setCell (p := ⟨g, i, none⟩) (Nat.le_refl _) (Nat.lt_succ_self _) _).drewN _
            case measure => (simp [intOf]; try omega)
        · obtain rfl : j = 0 := by omega
          have hgt : ¬ (0 : Int) < 0 := by omega
          go_wp2_with fail
          go_quiet (fail)
          go_wp2
          go_roundw
          case rel =>
            refine ⟨k + 1, by omega, by go_num, ?_, hbx.trans ((Drew.one _ _).below _)⟩
            have hro := ((HR2.out.drewN nq).own (HI2.out.i64 (by omega)) (by omega) (show g < (wr.drewN nq).heap.size by have := HR2.out.lt; exact this) (Nat.le_refl _))
            have e : C = ordTo (quoLt keys gains) (k + 1) := HK.out
            rw [← e]
            exact hro
          case measure => (simp [intOf]; try omega)
    · obtain rfl : k = keys.length := by omega
      go_wp2
      go_ret
      exact ⟨_, rfl, HO.out, hb⟩
def longs (js : List JobD) : List Int := js.map JobD.x0
def weights (js : List JobD) : List Int := js.map JobD.x2
theorem longs_snoc (js : List JobD) (k : Nat) (hk : k < js.length) : longs (js.take (k + 1)) = longs (js.take k) ++ [js[k].x0] := by
  rw [List.take_succ_eq_append_getElem hk]; simp only [longs, List.map_append, List.map_cons, List.map_nil]
theorem weights_snoc (js : List JobD) (k : Nat) (hk : k < js.length) : weights (js.take (k + 1)) = weights (js.take k) ++ [js[k].x2] := by
  rw [List.take_succ_eq_append_getElem hk]; simp only [weights, List.map_append, List.map_cons, List.map_nil]
theorem longs_getD (js : List JobD) (i : Nat) (hi : i < js.length) : (longs js).getD i 0 = js[i].x0 := by simp [longs, List.getD, hi]
theorem weights_getD (js : List JobD) (i : Nat) (hi : i < js.length) : (weights js).getD i 0 = js[i].x2 := by simp [weights, List.getD, hi]
def smithL (js : List JobD) : List Int := ordTo (quoLt (longs js) (weights js)) js.length
def smithOrder (js : List JobD) : List Int × Bool := if areJobs js then (smithL js, true) else ([], false)
def quoCmp (sizes gains : List Int) (a b : Int) : Int := cmpI (gains.getD b.toNat 0 * sizes.getD a.toNat 0) (gains.getD a.toNat 0 * sizes.getD b.toNat 0)
theorem quoCmp_lt (sizes gains : List Int) : ltOf (quoCmp sizes gains) = quoLt sizes gains := by
  funext x y; unfold ltOf quoCmp quoLt; exact cmpI_lt _ _
theorem jobs_ok {js : List JobD} (h : areJobs js = true) : ∀ j ∈ js, okJob j = true := by
  simp only [areJobs, Bool.and_eq_true] at h
  exact List.all_eq_true.1 h.2
end Go.Proofs.Ytcodlhogpmhdlaa
