/-
  ListPlan, LongFirst: contracts in the reference and in the program.
-/
import Derived.Test.YtcodlhogpmhdlaaQuo
import Derived.Deep.RegionHeld3
namespace Go.Proofs.Ytcodlhogpmhdlaa
open Go.RowKit
set_option linter.unusedVariables false
set_option maxRecDepth 100000

/-! ### The least of a list, by its place -/
def leastGo (F : List Int) : Nat → Nat → Nat → Nat
  | 0, _, b => b
  | n + 1, i, b => leastGo F n (i + 1) (if F.getD i 0 < F.getD b 0 then i else b)
def leastOf (F : List Int) : Nat := leastGo F F.length 0 0
theorem least_lt {F : List Int} : ∀ (n i b : Nat), i + n ≤ F.length → b < F.length → leastGo F n i b < F.length := by
  intro n
  induction n with
  | zero => intro i b _ h; exact h
  | succ n ih =>
    intro i b h1 h2
    rw [leastGo]
    refine ih _ _ (by omega) ?_
    split <;> omega
theorem leastOf_lt {F : List Int} (h : 0 < F.length) : leastOf F < F.length := least_lt _ _ _ (by omega) h
theorem least_yes {F : List Int} {m i b : Nat} (hi : i < m) (h : F.getD i 0 < F.getD b 0) : leastGo F (m - i) i b = leastGo F (m - (i + 1)) (i + 1) i := by
  rw [show m - i = (m - (i + 1)) + 1 by omega, leastGo, if_pos h]
theorem least_no {F : List Int} {m i b : Nat} (hi : i < m) (h : ¬ F.getD i 0 < F.getD b 0) : leastGo F (m - i) i b = leastGo F (m - (i + 1)) (i + 1) b := by
  rw [show m - i = (m - (i + 1)) + 1 by omega, leastGo, if_neg h]
theorem leastOf_one {F : List Int} {m : Nat} (hm : F.length = m) (h : 0 < m) : leastGo F (m - 1) 1 0 = leastOf F := by
  rw [leastOf, hm, show m = (m - 1) + 1 by omega, leastGo, if_neg (by omega)]
  simp
/-! ### The plan -/
def planGo (L : List Int) : List Int → List Int → List Int → Int → List Int × List Int × Int
  | [], F, O, m => (O, F, m)
  | j :: r, F, O, m => planGo L r (F.set (leastOf F) (F.getD (leastOf F) 0 + L.getD j.toNat 0)) (O.set j.toNat (leastOf F : Int)) (max m (F.getD (leastOf F) 0 + L.getD j.toNat 0))
def plan (js : List JobD) (zs : List Int) (M : Nat) : List Int × List Int × Int := planGo (longs js) zs (List.replicate M 0) (List.replicate js.length 0) 0
/-- m is the greatest of F -/
def Top (F : List Int) (m : Int) : Prop := m ∈ F ∧ ∀ x ∈ F, x ≤ m
theorem top_maxL {F : List Int} {m : Int} (h : Top F m) : maxL F = m := by
  have hne : F ≠ [] := by intro e; rw [e] at h; exact absurd h.1 (by simp)
  have h1 := (maxL_lt F hne (m + 1)).2 (fun z hz => by have := h.2 z hz; omega)
  have h2 : ¬ maxL F < m := fun hl => by have := (maxL_lt F hne m).1 hl m h.1; omega
  omega
theorem Top.step {F : List Int} {m : Int} (h : Top F m) {b : Nat} (hb : b < F.length) {d : Int} (hd : 0 ≤ d) : Top (F.set b (F.getD b 0 + d)) (max m (F.getD b 0 + d)) := by
  have hbm := h.2 _ (getD_mem hb)
  refine ⟨?_, fun x hx => ?_⟩
  · by_cases hc : m ≤ F.getD b 0 + d
    · rw [show max m (F.getD b 0 + d) = F.getD b 0 + d by omega]
      exact List.mem_set hb _
    · rw [show max m (F.getD b 0 + d) = m by omega]
      obtain ⟨i, hi, e⟩ := List.mem_iff_getElem.1 h.1
      have hne : b ≠ i := by
        rintro rfl
        have : F.getD b 0 = m := by simp [List.getD, hb, e]
        omega
      exact List.mem_iff_getElem.2 ⟨i, by simpa using hi, by rw [List.getElem_set_ne hne]; exact e⟩
  · rcases List.mem_or_eq_of_mem_set hx with hx | rfl
    · have := h.2 x hx; omega
    · omega
theorem planGo_top (L : List Int) : ∀ (zs F O : List Int) (m : Int), 0 < F.length → Top F m → (∀ z ∈ zs, 0 ≤ L.getD z.toNat 0) → Top (planGo L zs F O m).2.1 (planGo L zs F O m).2.2 := by
  intro zs
  induction zs with
  | nil => intro F O m _ h _; exact h
  | cons z r ih =>
    intro F O m h0 h hL
    rw [planGo]
    exact ih _ _ _ (by simpa using h0) (h.step (leastOf_lt h0) (hL z (by simp))) (fun x hx => hL x (by simp [hx]))
theorem replicate_top {M : Nat} (h : 0 < M) : Top (List.replicate M 0) 0 := ⟨by simp; omega, fun x hx => by rw [List.eq_of_mem_replicate hx]; omega⟩
def areMach (js : List JobD) (M : Int) : Bool := areJobs js && inB 1 8 M
def listOrder : Nat → List Int
  | 0 => []
  | n + 1 => listOrder n ++ [(n : Int)]
theorem listOrder_idx (n : Nat) : Idx n (listOrder n) := by
  induction n with
  | zero => intro x hx; simp [listOrder] at hx
  | succ n ih =>
    intro x hx
    simp only [listOrder, List.mem_append, List.mem_singleton] at hx
    rcases hx with hx | rfl
    · have := ih x hx; omega
    · omega
theorem listOrder_len (n : Nat) : (listOrder n).length = n := by
  induction n with
  | zero => rfl
  | succ n ih => simp [listOrder, ih]
def negs (js : List JobD) : List Int := js.map fun j => -j.x0
def longOrder (js : List JobD) : List Int := ordTo (keyLt (negs js)) js.length
def planOf (js : List JobD) (M : Int) (order : List Int) : List Int × Int × Bool := if areMach js M then ((plan js order M.toNat).1, (plan js order M.toNat).2.2, true) else ([], 0, false)
def listPlan (js : List JobD) (M : Int) : List Int × Int × Bool := planOf js M (listOrder js.length)
def longFirst (js : List JobD) (M : Int) : List Int × Int × Bool := planOf js M (longOrder js)
theorem areJobs_out {js : List JobD} (h : areJobs js = true) : 1 ≤ js.length ∧ js.length ≤ 12 ∧ ∀ j ∈ js, okJob j = true := by
  have := areJobs_len h
  exact ⟨by omega, by omega, jobs_ok h⟩
set_option maxHeartbeats 2000000 in
set_option maxRecDepth 100000 in
theorem l06List_any {l h l' h' : Nat} (v u : Value) (js : List JobD) (zs : List Int) (M : Nat) (w : World) (hv : Jobs w l h v js) (hu : Ints w l' h' u zs) (hh : h ≤ w.heap.size) (hh' : h' ≤ w.heap.size)
    (hJ : areJobs js = true) (hM : 1 ≤ M ∧ M ≤ 8) (hO : Idx js.length zs) (hzl : zs.length ≤ 12) :
    Calls Try.prog 94 #[v, u, .int .i64 M] w fun e w' => ∃ r, e = .returned (.tuple #[r, .int .i64 (plan js zs M).2.2]) ∧ OwnI w' w.heap.size w'.heap.size r (plan js zs M).1 ∧ Below w.heap.size w w' := by
  obtain ⟨a, cap, rfl, hc1, hc2, hd⟩ := hv.out
  obtain ⟨a', cap', rfl, gc1, gc2, gd⟩ := hu.out
  obtain ⟨j1, j2, j3⟩ := areJobs_out hJ
  have HO := Lib.hid hO
  have HJ := Lib.hid j3
  have hm1 := hM.1
  have hm2 := hM.2
  clear j3 hJ hO hM
  obtain ⟨i0, hi, hz0, hz1, hz2⟩ := info_parts info_i64
  have hml : js.length ≤ maxLen := by unfold maxLen; omega
  have hmm : M ≤ maxLen := by unfold maxLen; omega
  go_enter Try.func94, Try.ntmps94
  go_wp2_with (refine wpList_make_full _ rfl _ _ 25 rfl w.heap.size 2 i0 (.int .i64 0) 1 Try.underlying25 hi hz0 hz1 .i64 .i64 _ _ M rfl rfl rfl rfl ?c1 hmm ?c2 ?_)
  case c1 => rw [hz2]; omega
  case c2 => exact Nat.le_refl _
  intro w1 hown hg
  have hrow1 := RowI.made hown
  have hb1 : Below w.heap.size w w1 := (Below.refl _ _).grown hg (Nat.le_refl _) (fun k hk => by cases hk)
  have hs1 := hrow1.lt
  clear hown hg
  go_wp2_with (refine wpList_make_full _ rfl _ _ 25 rfl w1.heap.size 2 i0 (.int .i64 0) 1 Try.underlying25 hi hz0 hz1 .i64 .i64 _ _ js.length rfl rfl rfl rfl ?c1 hml ?c2 ?_)
  case c1 => rw [hz2]; omega
  case c2 => exact Nat.le_refl _
  intro w2 hown hg
  have hrow2 := RowI.made hown
  have hb2 : Below w1.heap.size w1 w2 := (Below.refl _ _).grown hg (Nat.le_refl _) (fun k hk => by cases hk)
  have HR1 := Lib.hid (hrow1.below hb2 hs1)
  have HR2 := Lib.hid hrow2
  have HB := Lib.hid (hb1.trans (hb2.mono (by omega)))
  have hle := hb1.size
  have hs2 := hrow2.lt
  clear hown hg hrow1 hrow2 hb1 hb2 hi hz0 hz1 hz2
  go_wp2_with fail
  go_loopw [10, 11] (fun mv i wr => ∃ (q : Nat) (F O : List Int) (m : Int), q ≤ zs.length ∧ i = .int .i64 q ∧ mv = .int .i64 m ∧ 0 ≤ m ∧ m ≤ 1000 * (q : Int) ∧ Hid (planGo (longs js) (zs.drop q) F O m = plan js zs M) ∧ Hid (∀ x ∈ F, 0 ≤ x ∧ x ≤ 1000 * (q : Int)) ∧ Hid (∀ x ∈ O, 0 ≤ x ∧ x ≤ 8) ∧ RowI wr w.heap.size w.heap.size M M F ∧ RowI wr w1.heap.size w1.heap.size js.length js.length O ∧ Below w.heap.size w wr) (fun _ i _ => zs.length - (intOf i).toNat)
  case atStart => exact ⟨0, _, _, 0, Nat.zero_le _, rfl, rfl, by omega, by omega, Lib.hid rfl, Lib.hid (fun x hx => by rw [List.eq_of_mem_replicate hx]; omega), Lib.hid (fun x hx => by rw [List.eq_of_mem_replicate hx]; omega), HR1.out, HR2.out, HB.out⟩
  case round =>
    clear HR1 HR2 HB hs2
    obtain ⟨q, F, O, m, hq, rfl, rfl, hm0, hmq, H, HF, HOO, hr1, hr2, hb⟩ := hrel
    have HR1 := Lib.hid hr1
    have HR2 := Lib.hid hr2
    have hFl := hr1.length
    have hOl := hr2.length
    by_cases hql : q < zs.length
    · have HD := Lib.hid (drop_cons zs q hql)
      rcases gd with rfl | ⟨b', off', rfl, gb1, gb2, gb3, gcell⟩
      · simp at hql
      rcases hd with rfl | ⟨b, off, rfl, hb1, hb2, hb3, hcell⟩
      · simp at j1
      have hx := HO.out zs[q] (List.getElem_mem _)
      obtain ⟨A, hA⟩ := Int.eq_ofNat_of_zero_le hx.1
      have hA2 : A < js.length := by omega
      have ZC : Hid (∀ (wx : World), Below w.heap.size w wx → wx.cell? ⟨b', off' + q, none⟩ = some (.int .i64 (A : Int))) := fun wx hbx => by
        rw [hbx.cell (p := ⟨b', off' + q, none⟩) (show b' < w.heap.size by omega)]
        have := gcell q hql
        rw [this, ← hA]; simp [hql]
      have JC : Hid (∀ (wx : World), Below w.heap.size w wx → wx.cell? ⟨b, off + A * 4, none⟩ = some (.int .i64 js[A].x0)) := fun wx hbx => by
        rw [hbx.cell (p := ⟨b, off + A * 4, none⟩) (show b < w.heap.size by omega)]
        exact (hcell A hA2).1
      have hjb := okJob_bounds (HJ.out js[A] (List.getElem_mem _))
      have hj0 := hjb.1.1
      have hj1 := hjb.1.2
      have HST : Hid (planGo (longs js) (zs.drop q) F O m = planGo (longs js) (zs.drop (q + 1)) (F.set (leastOf F) (F.getD (leastOf F) 0 + js[A].x0)) (O.set A (leastOf F : Int)) (max m (F.getD (leastOf F) 0 + js[A].x0))) := by
        rw [Hid, HD.out, planGo, hA, Int.toNat_natCast, longs_getD _ _ hA2]
      obtain ⟨lo, hlo⟩ : ∃ x, x = js[A].x0 := ⟨_, rfl⟩
      rw [← hlo] at JC hj0 hj1 HST
      have HL1 := Lib.hid (leastOf_one hFl (by omega))
      obtain ⟨w9, hw9⟩ : ∃ w9, w9 = wr := ⟨_, rfl⟩
      subst hw9
      have hzc := ZC.out _ hb
      have HBB := Lib.hid hb
      clear hx hA hcell gcell hjb hlo hr1 hr2
      go_wp2_with fail
      go_loopw [12, 13] (fun bv iv wr => ∃ (i b : Nat), 1 ≤ i ∧ i ≤ M ∧ b < M ∧ bv = .int .i64 b ∧ iv = .int .i64 i ∧ Hid (leastGo F (M - i) i b = leastOf F) ∧ Drew w9 wr) (fun _ iv _ => M - (intOf iv).toNat)
      case atStart => exact ⟨1, 0, by omega, by omega, by omega, rfl, rfl, HL1, Drew.refl _⟩
      case round =>
        obtain ⟨i, bb, hi1, hi2, hbb, rfl, rfl, HK, hD⟩ := hrel
        have hRx := HR1.out.drew hD
        by_cases hiM : i < M
        · have ci := hRx.cell hiM
          have cb := hRx.cell hbb
          obtain ⟨fi, hfi⟩ : ∃ x, x = F.getD i 0 := ⟨_, rfl⟩
          obtain ⟨fb, hfb⟩ : ∃ x, x = F.getD bb 0 := ⟨_, rfl⟩
          rw [← hfi] at ci
          rw [← hfb] at cb
          have HFI := Lib.hid hfi
          have HFB := Lib.hid hfb
          clear hRx hfi hfb hb hzc
          by_cases hlt : fi < fb
          · have HN : Hid (leastGo F (M - i) i bb = leastGo F (M - (i + 1)) (i + 1) i) := least_yes hiM (by rw [← HFI.out, ← HFB.out]; exact hlt)
            have hD9 := Lib.hid hD
            clear hD
            go_wp2_with fail
            go_quiet (fail)
            go_wp2
            go_roundw
            case rel => exact ⟨i + 1, i, by omega, by omega, by omega, rfl, by go_num, Lib.hid (by rw [← HK.out, HN.out]), hD9.out.step _⟩
            case measure => (simp [intOf]; try omega)
          · have HN : Hid (leastGo F (M - i) i bb = leastGo F (M - (i + 1)) (i + 1) bb) := least_no hiM (by rw [← HFI.out, ← HFB.out]; exact hlt)
            have hD9 := Lib.hid hD
            clear hD
            go_wp2_with fail
            go_quiet (fail)
            go_wp2
            go_roundw
            case rel => exact ⟨i + 1, bb, by omega, by omega, by omega, rfl, by go_num, Lib.hid (by rw [← HK.out, HN.out]), hD9.out.step _⟩
            case measure => (simp [intOf]; try omega)
        · obtain rfl : M = i := by omega
          have hbe : bb = leastOf F := by rw [← HK.out, Nat.sub_self]; rfl
          have HBE := Lib.hid hbe
          have hbx := hb.trans (hD.below w.heap.size)
          have hRo := HR2.out.drew hD
          have hzc2 := ZC.out _ hbx
          have hfo := hRo.frozen A
          have hfA := hRo.cell hA2
          have HRO := Lib.hid hRo
          have HRX := Lib.hid hRx
          have HBX := Lib.hid hbx
          clear hb hzc hD hRx hRo hbx hbe
          go_wp2_with fail
          obtain ⟨w5, hw5⟩ : ∃ w5, w5 = wr.setCell ⟨w1.heap.size, A, none⟩ (.int .i64 (bb : Int)) := ⟨_, rfl⟩
          rw [← hw5]
          have hR5 : RowI w5 w.heap.size w.heap.size M M F := by rw [hw5]; exact HRX.out.other (show w.heap.size ≠ w1.heap.size by omega) _
          have hO5 : RowI w5 w1.heap.size w1.heap.size js.length js.length (O.set A (bb : Int)) := by rw [hw5]; exact HRO.out.stored A _
          have hB5 : Below w.heap.size w w5 := by rw [hw5]; exact HBX.out.setCell (by omega) _
          have c1 := hR5.cell hbb
          have f1 := hR5.frozen bb
          have c2 := ZC.out _ hB5
          have c3 := JC.out _ hB5
          have HF5 := HF.out _ (getD_mem (show bb < F.length by omega))
          have HV : Hid (planGo (longs js) (zs.drop (q + 1)) (F.set bb (F.getD bb 0 + lo)) (O.set A (bb : Int)) (max m (F.getD bb 0 + lo)) = plan js zs M) := by
            rw [Hid, ← H.out, HST.out, HBE.out]
          obtain ⟨fb, hfb⟩ : ∃ x, x = F.getD bb 0 := ⟨_, rfl⟩
          rw [← hfb] at c1 HF5 HV
          have HR5 := Lib.hid hR5
          have HO5 := Lib.hid hO5
          have HB5 := Lib.hid hB5
          have hab : A < js.length := hA2
          clear hR5 hO5 hB5 hfb hw5 hzc2 hfo hfA
          go_wp2_with fail
          go_region
          obtain ⟨w6, hw6⟩ : ∃ w6, w6 = (w5.setCell ⟨w.heap.size, bb, none⟩ (.int .i64 (fb + lo))).drew := ⟨_, rfl⟩
          rw [← hw6]
          have hR6 : RowI w6 w.heap.size w.heap.size M M (F.set bb (fb + lo)) := by rw [hw6]; exact (HR5.out.stored bb _).drew ⟨1, rfl⟩
          have hO6 : RowI w6 w1.heap.size w1.heap.size js.length js.length (O.set A (bb : Int)) := by rw [hw6]; exact (HO5.out.other (show w1.heap.size ≠ w.heap.size by omega) _).drew ⟨1, rfl⟩
          have hB6 : Below w.heap.size w w6 := by rw [hw6]; exact (HB5.out.setCell (Nat.le_refl _) _).trans ((show Drew _ (World.drew _) from ⟨1, rfl⟩).below _)
          have c6 : w6.cell? ⟨w.heap.size, bb, none⟩ = some (.int .i64 (fb + lo)) := by
            rw [hR6.cell hbb]; simp [List.getD, show bb < F.length by omega]
          have HR6 := Lib.hid hR6
          have HO6 := Lib.hid hO6
          have HB6 := Lib.hid hB6
          clear hw6 hR6 hO6 hB6 c1 f1 c2 c3
          go_wp2_with fail
          refine (l00Max_any _ _ _).mono ?_
          rintro e w' ⟨rfl, rfl⟩
          go_wp2
          go_roundw
          case rel =>
            refine ⟨q + 1, _, _, _, by omega, by go_num, rfl, by omega, by omega, HV, Lib.hid ?_, Lib.hid ?_, HR6.out, HO6.out, HB6.out⟩
            · intro x hx
              rcases List.mem_or_eq_of_mem_set hx with hx | rfl
              · have := HF.out x hx; omega
              · omega
            · intro x hx
              rcases List.mem_or_eq_of_mem_set hx with hx | rfl
              · exact HOO.out x hx
              · omega
          case measure => (simp [intOf]; try omega)
    · have hE : plan js zs M = (O, F, m) := by rw [← H.out, drop_len _ _ (by omega), planGo]
      have HE := Lib.hid hE
      clear hE
      go_wp2
      go_ret2
      exact ⟨_, by rw [HE.out]; rfl, by rw [HE.out]; exact (HR2.out.own (hi := wr.heap.size) (fun x hx => by have := HOO.out x hx; unfold I64; omega) (by omega) HR2.out.lt (Nat.le_refl _)).mono hle (Nat.le_refl _) (Nat.le_refl _), hb⟩
set_option maxHeartbeats 400000 in
set_option maxRecDepth 100000 in
theorem l06Machines_any {l h : Nat} (v : Value) (js : List JobD) (M : Int) (w : World) (hv : Jobs w l h v js) :
    Calls Try.prog 93 #[v, .int .i64 M] w fun e w' => e = .returned (.bool (areMach js M)) ∧ w = w' := by
  cases hj : areJobs js
  · go_enter Try.func93, Try.ntmps93
    go_wp2_with fail
    refine (l06Are_any v js w hv).mono ?_
    rintro e w' ⟨rfl, rfl⟩
    rw [hj]
    go_wp2
    go_ret
    exact ⟨ret_bool (by rw [areMach, hj]; rfl), rfl⟩
  · go_enter Try.func93, Try.ntmps93
    go_wp2_with fail
    refine (l06Are_any v js w hv).mono ?_
    rintro e w' ⟨rfl, rfl⟩
    rw [hj]
    go_wp2_with fail
    refine (l00In_any _ _ _ _).mono ?_
    rintro e w' ⟨rfl, rfl⟩
    go_wp2
    go_ret
    exact ⟨ret_bool (by rw [areMach, hj]; rfl), rfl⟩
set_option maxHeartbeats 400000 in
set_option maxRecDepth 100000 in
theorem areMachines_any {l h : Nat} (v : Value) (js : List JobD) (M : Int) (w : World) (hv : Jobs w l h v js) (hh : h ≤ w.heap.size) (hz : js.length ≤ 1048576) :
    Calls Try.prog 96 #[v, .int .i64 M] w fun e w' => e = .returned (.bool (areMach js M)) ∧ Below w.heap.size w w' := by
  cases hj : areJobs js
  · go_enter Try.func96, Try.ntmps96
    go_wp2_with fail
    refine (implAreJobs_any w v js hv hh hz).mono ?_
    rintro e w1 ⟨rfl, hb1⟩
    rw [hj]
    go_wp2
    go_ret
    exact ⟨ret_bool (by rw [areMach, hj]; rfl), hb1⟩
  · go_enter Try.func96, Try.ntmps96
    go_wp2_with fail
    refine (implAreJobs_any w v js hv hh hz).mono ?_
    rintro e w1 ⟨rfl, hb1⟩
    rw [hj]
    go_wp2_with fail
    refine (within_any _ _ _ _).mono ?_
    rintro e w' ⟨rfl, rfl⟩
    go_wp2
    go_ret
    exact ⟨ret_bool (by rw [areMach, hj]; rfl), hb1⟩
theorem negs_snoc (js : List JobD) (k : Nat) (hk : k < js.length) : negs (js.take (k + 1)) = negs (js.take k) ++ [-js[k].x0] := by
  rw [List.take_succ_eq_append_getElem hk]; simp only [negs, List.map_append, List.map_cons, List.map_nil]
theorem areMach_out {js : List JobD} {M : Int} (h : areMach js M = true) : areJobs js = true ∧ 1 ≤ M ∧ M ≤ 8 := by
  simp only [areMach, Bool.and_eq_true] at h
  exact ⟨h.1, inB_true h.2⟩
set_option maxHeartbeats 2000000 in
set_option maxRecDepth 100000 in
theorem specListPlan_any (w : World) {l h : Nat} (v : Value) (js : List JobD) (M : Int) (hv : Jobs w l h v js) (hh : h ≤ w.heap.size) (hz : js.length ≤ 1048576) (k : I64 M) :
    Calls Try.prog 37 #[v, .int .i64 M] w fun e w' => ∃ r, e = .returned (.tuple #[r, .int .i64 (listPlan js M).2.1, .bool (listPlan js M).2.2]) ∧ OwnI w' w.heap.size w'.heap.size r (listPlan js M).1 ∧ Below w.heap.size w w' := by
  cases hm : areMach js M
  · have HE := Lib.hid (show listPlan js M = ([], 0, false) by simp [listPlan, planOf, hm])
    go_enter Try.func37, Try.ntmps37
    go_wp2_with fail
    refine (l06Machines_any v js M w hv).mono ?_
    rintro e w' ⟨rfl, rfl⟩
    rw [hm]
    go_wp2
    go_ret3
    exact ⟨_, by rw [HE.out]; rfl, by rw [HE.out]; exact OwnI.nil _ _ _ (Nat.le_refl _), Below.refl _ _⟩
  · obtain ⟨hJ, hM1, hM2⟩ := areMach_out hm
    have hl := areJobs_len hJ
    have HJ := Lib.hid hJ
    have HV := Lib.hid hv
    obtain ⟨a, cap, rfl, hc1, hc2, _⟩ := hv.out
    obtain ⟨Mn, rfl⟩ : ∃ Mn : Nat, M = (Mn : Int) := ⟨M.toNat, by omega⟩
    have HE := Lib.hid (show listPlan js (Mn : Int) = ((plan js (listOrder js.length) Mn).1, (plan js (listOrder js.length) Mn).2.2, true) by simp [listPlan, planOf, hm])
    have h0 := emptySlice w
    clear hJ hv
    go_enter Try.func37, Try.ntmps37
    go_wp2_with fail
    refine (l06Machines_any _ js Mn w HV.out).mono ?_
    rintro e w' ⟨rfl, rfl⟩
    rw [hm]
    clear hm
    go_wp2_with fail
    go_loopw [7, 8] (fun ov i wr => ∃ q : Nat, q ≤ js.length ∧ i = .int .i64 q ∧ OwnI wr w.heap.size wr.heap.size ov (listOrder q) ∧ Below w.heap.size w wr) (fun _ i _ => js.length - (intOf i).toNat)
    case atStart => exact ⟨0, Nat.zero_le _, rfl, by simpa [listOrder] using h0, below_newW _ _⟩
    case round =>
      clear h0
      obtain ⟨q, hq, rfl, ho, hb⟩ := hrel
      have hs := hb.size
      have HO := Lib.hid ho
      have hol : (listOrder q).length ≤ 12 := by rw [listOrder_len]; omega
      clear ho
      by_cases hlt : q < js.length
      · have HS : Hid (listOrder (q + 1) = listOrder q ++ [(q : Int)]) := rfl
        go_wp2_with (at_builtin; refine wpList_app1 rfl _ _ rfl _ (listOrder q) rfl (q : Int) _ HO.out rfl (by constructor <;> omega) (by omega) hs ?_)
        intro v2 w3 ho2 hsm hz3 _
        have HO2 : Hid (OwnI w3 w.heap.size w3.heap.size v2 (listOrder (q + 1))) := by rw [Hid, HS.out]; exact ho2
        clear ho2
        go_wp2
        go_roundw
        case rel => exact ⟨q + 1, by omega, by go_num, HO2.out, hb.trans (hsm.below (Nat.le_refl _) hs)⟩
        case measure => simp [intOf]; omega
      · obtain rfl : q = js.length := by omega
        have HL := Lib.hid (l06List_any _ _ js (listOrder js.length) Mn wr (HV.out.below hb hh) HO.out.rd (by omega) (Nat.le_refl _) HJ.out (by omega) (listOrder_idx _) (by omega))
        go_wp2_with fail
        refine HL.out.mono ?_
        rintro e w2 ⟨r, rfl, ho2, hb2⟩
        have HO2 := Lib.hid ho2
        clear ho2
        go_wp2
        go_ret3
        exact ⟨_, by rw [HE.out]; rfl, by rw [HE.out]; exact HO2.out.mono hs (Nat.le_refl _) (Nat.le_refl _), hb.trans (hb2.mono hs)⟩
set_option maxHeartbeats 2000000 in
set_option maxRecDepth 100000 in
theorem specLongFirst_any (w : World) {l h : Nat} (v : Value) (js : List JobD) (M : Int) (hv : Jobs w l h v js) (hh : h ≤ w.heap.size) (hz : js.length ≤ 1048576) (k : I64 M) :
    Calls Try.prog 56 #[v, .int .i64 M] w fun e w' => ∃ r, e = .returned (.tuple #[r, .int .i64 (longFirst js M).2.1, .bool (longFirst js M).2.2]) ∧ OwnI w' w.heap.size w'.heap.size r (longFirst js M).1 ∧ Below w.heap.size w w' := by
  cases hm : areMach js M
  · have HE := Lib.hid (show longFirst js M = ([], 0, false) by simp [longFirst, planOf, hm])
    go_enter Try.func56, Try.ntmps56
    go_wp2_with fail
    refine (l06Machines_any v js M w hv).mono ?_
    rintro e w' ⟨rfl, rfl⟩
    rw [hm]
    go_wp2
    go_ret3
    exact ⟨_, by rw [HE.out]; rfl, by rw [HE.out]; exact OwnI.nil _ _ _ (Nat.le_refl _), Below.refl _ _⟩
  · obtain ⟨hJ, hM1, hM2⟩ := areMach_out hm
    have hl := areJobs_len hJ
    have HJ := Lib.hid hJ
    have HOK := Lib.hid (jobs_ok hJ)
    have HV := Lib.hid hv
    obtain ⟨a, cap, rfl, hc1, hc2, hd⟩ := hv.out
    obtain ⟨Mn, rfl⟩ : ∃ Mn : Nat, M = (Mn : Int) := ⟨M.toNat, by omega⟩
    have HE := Lib.hid (show longFirst js (Mn : Int) = ((plan js (longOrder js) Mn).1, (plan js (longOrder js) Mn).2.2, true) by simp [longFirst, planOf, hm])
    have h0 := emptySlice w
    clear hJ hv
    go_enter Try.func56, Try.ntmps56
    go_wp2_with fail
    refine (l06Machines_any _ js Mn w HV.out).mono ?_
    rintro e w' ⟨rfl, rfl⟩
    rw [hm]
    clear hm
    go_wp2_with fail
    go_loopw [7, 8] (fun ov i wr => ∃ q : Nat, q ≤ js.length ∧ i = .int .i64 q ∧ OwnI wr w.heap.size wr.heap.size ov (negs (js.take q)) ∧ Below w.heap.size w wr) (fun _ i _ => js.length - (intOf i).toNat)
    case atStart => exact ⟨0, Nat.zero_le _, rfl, by simpa [negs] using h0, below_newW _ _⟩
    case round =>
      clear h0
      obtain ⟨q, hq, rfl, ho, hb⟩ := hrel
      have hs := hb.size
      have HO := Lib.hid ho
      have hol : (negs (js.take q)).length ≤ q := by simp [negs]; omega
      clear ho
      by_cases hlt : q < js.length
      · have HS := Lib.hid (negs_snoc js q hlt)
        rcases hd with rfl | ⟨b, off, rfl, hb1, hb2, hb3, hcell⟩
        · simp at hlt
        have c1 := (hcell q hlt).1
        rw [← hb.cell (p := ⟨b, off + q * 4, none⟩) (show b < w.heap.size by omega)] at c1
        have hrg := okJob_bounds (HOK.out js[q] (List.getElem_mem _))
        have hr1 := hrg.1.1
        have hr2 := hrg.1.2
        clear hcell hrg
        go_wp2_with (at_builtin; refine wpList_app1 rfl _ _ rfl _ (negs (js.take q)) rfl (-js[q].x0) _ HO.out rfl (by constructor <;> omega) (by omega) hs ?_)
        intro v2 w3 ho2 hsm hz3 _
        have HO2 : Hid (OwnI w3 w.heap.size w3.heap.size v2 (negs (js.take (q + 1)))) := by rw [Hid, HS.out]; exact ho2
        clear ho2
        go_wp2
        go_roundw
        case rel => exact ⟨q + 1, by omega, by go_num, HO2.out, hb.trans (hsm.below (Nat.le_refl _) hs)⟩
        case measure => simp [intOf]; omega
      · obtain rfl : q = js.length := by omega
        rw [List.take_length] at HO
        have hdl : (negs js).length = js.length := by simp [negs]
        have HDL := Lib.hid hdl
        have HOD := Lib.hid (l06Order_any _ (negs js) _ HO.out.rd (Nat.le_refl _) (by omega))
        have HLO : Hid (longOrder js = ordTo (keyLt (negs js)) js.length) := rfl
        clear hdl hol
        go_wp2_with fail
        refine HOD.out.mono ?_
        rintro e w2 ⟨u, rfl, ho2, hb2⟩
        rw [HDL.out, ← HLO.out] at ho2
        have hlen : (longOrder js).length ≤ 12 := by rw [HLO.out, ordTo_len]; omega
        have hbx := hb.trans (hb2.mono hs)
        have HL := Lib.hid (l06List_any _ _ js (longOrder js) Mn w2 (HV.out.below hbx hh) ho2.rd (by have := hbx.size; omega) (Nat.le_refl _) HJ.out (by omega) (by rw [HLO.out]; exact ordTo_idx _ _) hlen)
        have hs2 := hbx.size
        clear ho2
        go_wp2_with fail
        refine HL.out.mono ?_
        rintro e w4 ⟨r, rfl, ho4, hb4⟩
        have HO4 := Lib.hid ho4
        clear ho4
        go_wp2
        go_ret3
        exact ⟨_, by rw [HE.out]; rfl, by rw [HE.out]; exact HO4.out.mono hs2 (Nat.le_refl _) (Nat.le_refl _), hbx.trans (hb4.mono hs2)⟩
theorem ints_made (n : Nat) (hn : n ≤ 1048576) : ∀ wx : World, (Instr.makeSlice 25 (.int .i64 n) (.int .i64 n)).run Try.prog wx = .ok (.slice (some ⟨wx.heap.size, 0, none⟩) n n) (wx.alloc (.cells (madeCells #[Value.int .i64 0] n) 2)) := by
  intro wx
  obtain ⟨i0, hi, hz0, hz1, hz2⟩ := info_parts info_i64
  have := run_make (P := Try.prog) wx 25 2 i0 (.int .i64 0) Try.underlying25 hi hz0 .i64 .i64 n n (by omega) (by omega) (by rw [hz2]; omega) (by omega)
  rw [hz1, Int.toNat_natCast, Nat.mul_one] at this
  exact this
theorem row_made (w : World) (n : Nat) (hn : n ≤ 1048576) : RowI (w.alloc (.cells (madeCells #[Value.int .i64 0] n) 2)) w.heap.size w.heap.size n n (List.replicate n 0) :=
  RowI.made (World.ownsRow_lit w _ n (Nat.le_refl _) (by unfold maxLen; omega) (by simp [size_madeCells]))
set_option maxHeartbeats 2000000 in
set_option maxRecDepth 100000 in
theorem listPlan_any {l h l' h' : Nat} (v u : Value) (js : List JobD) (zs : List Int) (M : Nat) (w : World) (hv : Jobs w l h v js) (hu : Ints w l' h' u zs) (hh : h ≤ w.heap.size) (hh' : h' ≤ w.heap.size)
    (hJ : areJobs js = true) (hM : 1 ≤ M ∧ M ≤ 8) (hO : Idx js.length zs) (hzl : zs.length ≤ 12) :
    Calls Try.prog 97 #[v, .int .i64 M, u] w fun e w' => ∃ r, e = .returned (.tuple #[r, .int .i64 (plan js zs M).2.2]) ∧ OwnI w' w.heap.size w'.heap.size r (plan js zs M).1 ∧ Below w.heap.size w w' := by
  obtain ⟨a, cap, rfl, hc1, hc2, hd⟩ := hv.out
  obtain ⟨a', cap', rfl, gc1, gc2, gd⟩ := hu.out
  obtain ⟨j1, j2, j3⟩ := areJobs_out hJ
  have HO := Lib.hid hO
  have HJ := Lib.hid j3
  have hm1 := hM.1
  have hm2 := hM.2
  clear j3 hJ hO hM
  have hmk1 := ints_made js.length (by omega)
  have hmk2 := ints_made M (by omega)
  go_enter Try.func97, Try.ntmps97
  go_wp2_with fail
  go_region
  · obtain ⟨w2, hw2⟩ : ∃ w2, w2 = (((w.alloc (.cells (madeCells #[Value.int .i64 0] js.length) 2)).alloc (.cells (madeCells #[Value.int .i64 0] M) 2)).drew) := ⟨_, rfl⟩
    rw [← hw2]
    have e1 : (w.alloc (.cells (madeCells #[Value.int .i64 0] js.length) 2)).heap.size = w.heap.size + 1 := by simp
    have r1 : RowI w2 w.heap.size w.heap.size js.length js.length (List.replicate js.length 0) := by
      rw [hw2]; exact ((row_made w js.length (by omega)).alloc _).drew ⟨1, rfl⟩
    have r2 : RowI w2 (w.heap.size + 1) (w.heap.size + 1) M M (List.replicate M 0) := by
      have := row_made (w.alloc (.cells (madeCells #[Value.int .i64 0] js.length) 2)) M (by omega)
      rw [e1] at this
      rw [hw2]; exact this.drew ⟨1, rfl⟩
    have hB : Below w.heap.size w w2 := by
      rw [hw2]; exact (((Below.refl _ _).alloc (Nat.le_refl _) _).alloc (by rw [e1]; omega) _).trans ((show Drew _ (World.drew _) from ⟨1, rfl⟩).below _)
    have R1 := Lib.hid r1
    have R2 := Lib.hid r2
    have HB := Lib.hid hB
    clear hw2 e1 r1 r2 hB hmk1 hmk2
    go_wp2_with fail
    go_loopw [22] (fun i wr => ∃ (q : Nat) (F O : List Int) (m : Int), q ≤ zs.length ∧ i = .int .i64 q ∧ 0 ≤ m ∧ m ≤ 1000 * (q : Int) ∧ Hid (planGo (longs js) (zs.drop q) F O m = plan js zs M) ∧ Hid (Top F m) ∧ Hid (∀ x ∈ F, 0 ≤ x ∧ x ≤ 1000 * (q : Int)) ∧ Hid (∀ x ∈ O, 0 ≤ x ∧ x ≤ 8) ∧ RowI wr (w.heap.size + 1) (w.heap.size + 1) M M F ∧ RowI wr w.heap.size w.heap.size js.length js.length O ∧ Below w.heap.size w wr) (fun i _ => zs.length - (intOf i).toNat)
    case atStart => exact ⟨0, _, _, 0, Nat.zero_le _, rfl, by omega, by omega, Lib.hid rfl, Lib.hid (replicate_top (by omega)), Lib.hid (fun x hx => by rw [List.eq_of_mem_replicate hx]; omega), Lib.hid (fun x hx => by rw [List.eq_of_mem_replicate hx]; omega), R2.out, R1.out, HB.out⟩
    case round =>
      clear R1 R2 HB
      obtain ⟨q, F, O, m, hq, rfl, hm0, hmq, H, HT, HF, HOO, hr1, hr2, hb⟩ := hrel
      have HR1 := Lib.hid hr1
      have HR2 := Lib.hid hr2
      have hFl := hr1.length
      have hOl := hr2.length
      by_cases hql : q < zs.length
      · have HD := Lib.hid (drop_cons zs q hql)
        rcases gd with rfl | ⟨b', off', rfl, gb1, gb2, gb3, gcell⟩
        · simp at hql
        rcases hd with rfl | ⟨b, off, rfl, hb1, hb2, hb3, hcell⟩
        · simp at j1
        have hx := HO.out zs[q] (List.getElem_mem _)
        obtain ⟨A, hA⟩ := Int.eq_ofNat_of_zero_le hx.1
        have hA2 : A < js.length := by omega
        have hzc : wr.cell? ⟨b', off' + q, none⟩ = some (.int .i64 (A : Int)) := by
          rw [hb.cell (p := ⟨b', off' + q, none⟩) (show b' < w.heap.size by omega)]
          have := gcell q hql
          rw [this, ← hA]; simp [hql]
        have JC : Hid (∀ (wx : World), Below w.heap.size w wx → wx.cell? ⟨b, off + A * 4, none⟩ = some (.int .i64 js[A].x0)) := fun wx hbx => by
          rw [hbx.cell (p := ⟨b, off + A * 4, none⟩) (show b < w.heap.size by omega)]
          exact (hcell A hA2).1
        have hjb := okJob_bounds (HJ.out js[A] (List.getElem_mem _))
        have hj0 := hjb.1.1
        have hj1 := hjb.1.2
        have HST : Hid (planGo (longs js) (zs.drop q) F O m = planGo (longs js) (zs.drop (q + 1)) (F.set (leastOf F) (F.getD (leastOf F) 0 + js[A].x0)) (O.set A (leastOf F : Int)) (max m (F.getD (leastOf F) 0 + js[A].x0))) := by
          rw [Hid, HD.out, planGo, hA, Int.toNat_natCast, longs_getD _ _ hA2]
        obtain ⟨lo, hlo⟩ : ∃ x, x = js[A].x0 := ⟨_, rfl⟩
        rw [← hlo] at JC hj0 hj1 HST
        have HL1 : Hid (leastGo F (M - 0) 0 0 = leastOf F) := by rw [Hid, leastOf, hFl]; rfl
        have HBB := Lib.hid hb
        have hfo := hr2.frozen A
        have hfA := hr2.cell hA2
        clear hx hA hcell gcell hjb hlo hr1 hr2 hb
        go_wp2_with fail
        go_loop [12, 28] (fun bv iv => ∃ (i b : Nat), i ≤ M ∧ b < M ∧ bv = .int .i64 b ∧ iv = .int .i64 i ∧ Hid (leastGo F (M - i) i b = leastOf F)) (fun _ iv => M - (intOf iv).toNat)
        case atStart => exact ⟨0, 0, by omega, by omega, rfl, rfl, HL1⟩
        case round =>
          obtain ⟨i, bb, hi2, hbb, rfl, rfl, HK⟩ := hrel
          by_cases hiM : i < M
          · have ci := HR1.out.cell hiM
            have cb := HR1.out.cell hbb
            obtain ⟨fi, hfi⟩ : ∃ x, x = F.getD i 0 := ⟨_, rfl⟩
            obtain ⟨fb, hfb⟩ : ∃ x, x = F.getD bb 0 := ⟨_, rfl⟩
            rw [← hfi] at ci
            rw [← hfb] at cb
            have HFI := Lib.hid hfi
            have HFB := Lib.hid hfb
            clear hfi hfb hzc hfA hfo
            by_cases hlt : fi < fb
            · have HN : Hid (leastGo F (M - i) i bb = leastGo F (M - (i + 1)) (i + 1) i) := least_yes hiM (by rw [← HFI.out, ← HFB.out]; exact hlt)
              go_wp2
              go_round
              case rel => exact ⟨i + 1, i, by omega, by omega, rfl, by go_num, Lib.hid (by rw [← HK.out, HN.out])⟩
              case measure => (simp [intOf]; try omega)
            · have HN : Hid (leastGo F (M - i) i bb = leastGo F (M - (i + 1)) (i + 1) bb) := least_no hiM (by rw [← HFI.out, ← HFB.out]; exact hlt)
              go_wp2
              go_round
              case rel => exact ⟨i + 1, bb, by omega, by omega, rfl, by go_num, Lib.hid (by rw [← HK.out, HN.out])⟩
              case measure => (simp [intOf]; try omega)
          · obtain rfl : M = i := by omega
            have hbe : bb = leastOf F := by rw [← HK.out, Nat.sub_self]; rfl
            have HBE := Lib.hid hbe
            clear hbe hzc
            go_wp2_with fail
            obtain ⟨w5, hw5⟩ : ∃ w5, w5 = wr.setCell ⟨w.heap.size, A, none⟩ (.int .i64 (bb : Int)) := ⟨_, rfl⟩
            rw [← hw5]
            have hR5 : RowI w5 (w.heap.size + 1) (w.heap.size + 1) M M F := by rw [hw5]; exact HR1.out.other (show (w.heap.size + 1) ≠ w.heap.size by omega) _
            have hO5 : RowI w5 w.heap.size w.heap.size js.length js.length (O.set A (bb : Int)) := by rw [hw5]; exact HR2.out.stored A _
            have hB5 : Below w.heap.size w w5 := by rw [hw5]; exact HBB.out.setCell (show w.heap.size ≤ w.heap.size by omega) _
            have c1 := hR5.cell hbb
            have f1 := hR5.frozen bb
            have c3 := JC.out _ hB5
            have HF5 := HF.out _ (getD_mem (show bb < F.length by omega))
            have HV : Hid (planGo (longs js) (zs.drop (q + 1)) (F.set bb (F.getD bb 0 + lo)) (O.set A (bb : Int)) (max m (F.getD bb 0 + lo)) = plan js zs M) := by
              rw [Hid, ← H.out, HST.out, HBE.out]
            have HTT : Hid (Top (F.set bb (F.getD bb 0 + lo)) (max m (F.getD bb 0 + lo))) := HT.out.step (by omega) (by omega)
            obtain ⟨fb, hfb⟩ : ∃ x, x = F.getD bb 0 := ⟨_, rfl⟩
            rw [← hfb] at c1 HF5 HV HTT
            have HR5 := Lib.hid hR5
            have HO5 := Lib.hid hO5
            have HB5 := Lib.hid hB5
            clear hR5 hO5 hB5 hfb hw5 hfo hfA
            go_wp2_with fail
            go_region
            obtain ⟨w6, hw6⟩ : ∃ w6, w6 = (w5.setCell ⟨(w.heap.size + 1), bb, none⟩ (.int .i64 (fb + lo))).drew := ⟨_, rfl⟩
            rw [← hw6]
            have hR6 : RowI w6 (w.heap.size + 1) (w.heap.size + 1) M M (F.set bb (fb + lo)) := by rw [hw6]; exact (HR5.out.stored bb _).drew ⟨1, rfl⟩
            have hO6 : RowI w6 w.heap.size w.heap.size js.length js.length (O.set A (bb : Int)) := by rw [hw6]; exact (HO5.out.other (show w.heap.size ≠ (w.heap.size + 1) by omega) _).drew ⟨1, rfl⟩
            have hB6 : Below w.heap.size w w6 := by rw [hw6]; exact (HB5.out.setCell (show w.heap.size ≤ (w.heap.size + 1) by omega) _).trans ((show Drew _ (World.drew _) from ⟨1, rfl⟩).below _)
            have HR6 := Lib.hid hR6
            have HO6 := Lib.hid hO6
            have HB6 := Lib.hid hB6
            clear hw6 hR6 hO6 hB6 c1 f1 c3
            go_wp2
            go_roundw
            case rel =>
              refine ⟨q + 1, _, _, _, by omega, by go_num, ?_, ?_, HV, HTT, Lib.hid ?_, Lib.hid ?_, HR6.out, HO6.out, HB6.out⟩
              · omega
              · omega
              · intro x hx
                rcases List.mem_or_eq_of_mem_set hx with hx | rfl
                · have := HF.out x hx; omega
                · omega
              · intro x hx
                rcases List.mem_or_eq_of_mem_set hx with hx | rfl
                · exact HOO.out x hx
                · omega
            case measure => (simp [intOf]; try omega)
      · have hE : plan js zs M = (O, F, m) := by rw [← H.out, drop_len _ _ (by omega), planGo]
        have HE := Lib.hid hE
        have HMX := Lib.hid (slicesMax_any _ _ _ F wr (HR1.out.rd (hi := wr.heap.size) (fun x hx => by have := HF.out x hx; unfold I64; omega) HR1.out.lt (Nat.le_refl _)) (by omega))
        rw [top_maxL HT.out] at HMX
        have hOlt : w.heap.size < wr.heap.size := hr2.lt
        clear hE hr1 hr2
        go_wp2_with fail
        refine HMX.out.mono ?_
        rintro e w' ⟨rfl, rfl⟩
        go_wp2
        go_ret2
        exact ⟨_, by rw [HE.out]; rfl, by rw [HE.out]; exact (HR2.out.own (hi := wr.heap.size) (fun x hx => by have := HOO.out x hx; unfold I64; omega) (by omega) hOlt (Nat.le_refl _)).mono (show w.heap.size ≤ w.heap.size by omega) (Nat.le_refl _) (Nat.le_refl _), hb⟩
  · obtain ⟨w2, hw2⟩ : ∃ w2, w2 = (((w.alloc (.cells (madeCells #[Value.int .i64 0] M) 2)).alloc (.cells (madeCells #[Value.int .i64 0] js.length) 2)).drew) := ⟨_, rfl⟩
    rw [← hw2]
    have e1 : (w.alloc (.cells (madeCells #[Value.int .i64 0] M) 2)).heap.size = w.heap.size + 1 := by simp
    have r1 : RowI w2 w.heap.size w.heap.size M M (List.replicate M 0) := by
      rw [hw2]; exact ((row_made w M (by omega)).alloc _).drew ⟨1, rfl⟩
    have r2 : RowI w2 (w.heap.size + 1) (w.heap.size + 1) js.length js.length (List.replicate js.length 0) := by
      have := row_made (w.alloc (.cells (madeCells #[Value.int .i64 0] M) 2)) js.length (by omega)
      rw [e1] at this
      rw [hw2]; exact this.drew ⟨1, rfl⟩
    have hB : Below w.heap.size w w2 := by
      rw [hw2]; exact (((Below.refl _ _).alloc (Nat.le_refl _) _).alloc (by rw [e1]; omega) _).trans ((show Drew _ (World.drew _) from ⟨1, rfl⟩).below _)
    have R1 := Lib.hid r1
    have R2 := Lib.hid r2
    have HB := Lib.hid hB
    clear hw2 e1 r1 r2 hB hmk1 hmk2
    go_wp2_with fail
    go_loopw [22] (fun i wr => ∃ (q : Nat) (F O : List Int) (m : Int), q ≤ zs.length ∧ i = .int .i64 q ∧ 0 ≤ m ∧ m ≤ 1000 * (q : Int) ∧ Hid (planGo (longs js) (zs.drop q) F O m = plan js zs M) ∧ Hid (Top F m) ∧ Hid (∀ x ∈ F, 0 ≤ x ∧ x ≤ 1000 * (q : Int)) ∧ Hid (∀ x ∈ O, 0 ≤ x ∧ x ≤ 8) ∧ RowI wr w.heap.size w.heap.size M M F ∧ RowI wr (w.heap.size + 1) (w.heap.size + 1) js.length js.length O ∧ Below w.heap.size w wr) (fun i _ => zs.length - (intOf i).toNat)
    case atStart => exact ⟨0, _, _, 0, Nat.zero_le _, rfl, by omega, by omega, Lib.hid rfl, Lib.hid (replicate_top (by omega)), Lib.hid (fun x hx => by rw [List.eq_of_mem_replicate hx]; omega), Lib.hid (fun x hx => by rw [List.eq_of_mem_replicate hx]; omega), R1.out, R2.out, HB.out⟩
    case round =>
      clear R1 R2 HB
      obtain ⟨q, F, O, m, hq, rfl, hm0, hmq, H, HT, HF, HOO, hr1, hr2, hb⟩ := hrel
      have HR1 := Lib.hid hr1
      have HR2 := Lib.hid hr2
      have hFl := hr1.length
      have hOl := hr2.length
      by_cases hql : q < zs.length
      · have HD := Lib.hid (drop_cons zs q hql)
        rcases gd with rfl | ⟨b', off', rfl, gb1, gb2, gb3, gcell⟩
        · simp at hql
        rcases hd with rfl | ⟨b, off, rfl, hb1, hb2, hb3, hcell⟩
        · simp at j1
        have hx := HO.out zs[q] (List.getElem_mem _)
        obtain ⟨A, hA⟩ := Int.eq_ofNat_of_zero_le hx.1
        have hA2 : A < js.length := by omega
        have hzc : wr.cell? ⟨b', off' + q, none⟩ = some (.int .i64 (A : Int)) := by
          rw [hb.cell (p := ⟨b', off' + q, none⟩) (show b' < w.heap.size by omega)]
          have := gcell q hql
          rw [this, ← hA]; simp [hql]
        have JC : Hid (∀ (wx : World), Below w.heap.size w wx → wx.cell? ⟨b, off + A * 4, none⟩ = some (.int .i64 js[A].x0)) := fun wx hbx => by
          rw [hbx.cell (p := ⟨b, off + A * 4, none⟩) (show b < w.heap.size by omega)]
          exact (hcell A hA2).1
        have hjb := okJob_bounds (HJ.out js[A] (List.getElem_mem _))
        have hj0 := hjb.1.1
        have hj1 := hjb.1.2
        have HST : Hid (planGo (longs js) (zs.drop q) F O m = planGo (longs js) (zs.drop (q + 1)) (F.set (leastOf F) (F.getD (leastOf F) 0 + js[A].x0)) (O.set A (leastOf F : Int)) (max m (F.getD (leastOf F) 0 + js[A].x0))) := by
          rw [Hid, HD.out, planGo, hA, Int.toNat_natCast, longs_getD _ _ hA2]
        obtain ⟨lo, hlo⟩ : ∃ x, x = js[A].x0 := ⟨_, rfl⟩
        rw [← hlo] at JC hj0 hj1 HST
        have HL1 : Hid (leastGo F (M - 0) 0 0 = leastOf F) := by rw [Hid, leastOf, hFl]; rfl
        have HBB := Lib.hid hb
        have hfo := hr2.frozen A
        have hfA := hr2.cell hA2
        clear hx hA hcell gcell hjb hlo hr1 hr2 hb
        go_wp2_with fail
        go_loop [12, 28] (fun bv iv => ∃ (i b : Nat), i ≤ M ∧ b < M ∧ bv = .int .i64 b ∧ iv = .int .i64 i ∧ Hid (leastGo F (M - i) i b = leastOf F)) (fun _ iv => M - (intOf iv).toNat)
        case atStart => exact ⟨0, 0, by omega, by omega, rfl, rfl, HL1⟩
        case round =>
          obtain ⟨i, bb, hi2, hbb, rfl, rfl, HK⟩ := hrel
          by_cases hiM : i < M
          · have ci := HR1.out.cell hiM
            have cb := HR1.out.cell hbb
            obtain ⟨fi, hfi⟩ : ∃ x, x = F.getD i 0 := ⟨_, rfl⟩
            obtain ⟨fb, hfb⟩ : ∃ x, x = F.getD bb 0 := ⟨_, rfl⟩
            rw [← hfi] at ci
            rw [← hfb] at cb
            have HFI := Lib.hid hfi
            have HFB := Lib.hid hfb
            clear hfi hfb hzc hfA hfo
            by_cases hlt : fi < fb
            · have HN : Hid (leastGo F (M - i) i bb = leastGo F (M - (i + 1)) (i + 1) i) := least_yes hiM (by rw [← HFI.out, ← HFB.out]; exact hlt)
              go_wp2
              go_round
              case rel => exact ⟨i + 1, i, by omega, by omega, rfl, by go_num, Lib.hid (by rw [← HK.out, HN.out])⟩
              case measure => (simp [intOf]; try omega)
            · have HN : Hid (leastGo F (M - i) i bb = leastGo F (M - (i + 1)) (i + 1) bb) := least_no hiM (by rw [← HFI.out, ← HFB.out]; exact hlt)
              go_wp2
              go_round
              case rel => exact ⟨i + 1, bb, by omega, by omega, rfl, by go_num, Lib.hid (by rw [← HK.out, HN.out])⟩
              case measure => (simp [intOf]; try omega)
          · obtain rfl : M = i := by omega
            have hbe : bb = leastOf F := by rw [← HK.out, Nat.sub_self]; rfl
            have HBE := Lib.hid hbe
            clear hbe hzc
            go_wp2_with fail
            obtain ⟨w5, hw5⟩ : ∃ w5, w5 = wr.setCell ⟨(w.heap.size + 1), A, none⟩ (.int .i64 (bb : Int)) := ⟨_, rfl⟩
            rw [← hw5]
            have hR5 : RowI w5 w.heap.size w.heap.size M M F := by rw [hw5]; exact HR1.out.other (show w.heap.size ≠ (w.heap.size + 1) by omega) _
            have hO5 : RowI w5 (w.heap.size + 1) (w.heap.size + 1) js.length js.length (O.set A (bb : Int)) := by rw [hw5]; exact HR2.out.stored A _
            have hB5 : Below w.heap.size w w5 := by rw [hw5]; exact HBB.out.setCell (show w.heap.size ≤ (w.heap.size + 1) by omega) _
            have c1 := hR5.cell hbb
            have f1 := hR5.frozen bb
            have c3 := JC.out _ hB5
            have HF5 := HF.out _ (getD_mem (show bb < F.length by omega))
            have HV : Hid (planGo (longs js) (zs.drop (q + 1)) (F.set bb (F.getD bb 0 + lo)) (O.set A (bb : Int)) (max m (F.getD bb 0 + lo)) = plan js zs M) := by
              rw [Hid, ← H.out, HST.out, HBE.out]
            have HTT : Hid (Top (F.set bb (F.getD bb 0 + lo)) (max m (F.getD bb 0 + lo))) := HT.out.step (by omega) (by omega)
            obtain ⟨fb, hfb⟩ : ∃ x, x = F.getD bb 0 := ⟨_, rfl⟩
            rw [← hfb] at c1 HF5 HV HTT
            have HR5 := Lib.hid hR5
            have HO5 := Lib.hid hO5
            have HB5 := Lib.hid hB5
            clear hR5 hO5 hB5 hfb hw5 hfo hfA
            go_wp2_with fail
            go_region
            obtain ⟨w6, hw6⟩ : ∃ w6, w6 = (w5.setCell ⟨w.heap.size, bb, none⟩ (.int .i64 (fb + lo))).drew := ⟨_, rfl⟩
            rw [← hw6]
            have hR6 : RowI w6 w.heap.size w.heap.size M M (F.set bb (fb + lo)) := by rw [hw6]; exact (HR5.out.stored bb _).drew ⟨1, rfl⟩
            have hO6 : RowI w6 (w.heap.size + 1) (w.heap.size + 1) js.length js.length (O.set A (bb : Int)) := by rw [hw6]; exact (HO5.out.other (show (w.heap.size + 1) ≠ w.heap.size by omega) _).drew ⟨1, rfl⟩
            have hB6 : Below w.heap.size w w6 := by rw [hw6]; exact (HB5.out.setCell (show w.heap.size ≤ w.heap.size by omega) _).trans ((show Drew _ (World.drew _) from ⟨1, rfl⟩).below _)
            have HR6 := Lib.hid hR6
            have HO6 := Lib.hid hO6
            have HB6 := Lib.hid hB6
            clear hw6 hR6 hO6 hB6 c1 f1 c3
            go_wp2
            go_roundw
            case rel =>
              refine ⟨q + 1, _, _, _, by omega, by go_num, ?_, ?_, HV, HTT, Lib.hid ?_, Lib.hid ?_, HR6.out, HO6.out, HB6.out⟩
              · omega
              · omega
              · intro x hx
                rcases List.mem_or_eq_of_mem_set hx with hx | rfl
                · have := HF.out x hx; omega
                · omega
              · intro x hx
                rcases List.mem_or_eq_of_mem_set hx with hx | rfl
                · exact HOO.out x hx
                · omega
            case measure => (simp [intOf]; try omega)
      · have hE : plan js zs M = (O, F, m) := by rw [← H.out, drop_len _ _ (by omega), planGo]
        have HE := Lib.hid hE
        have HMX := Lib.hid (slicesMax_any _ _ _ F wr (HR1.out.rd (hi := wr.heap.size) (fun x hx => by have := HF.out x hx; unfold I64; omega) HR1.out.lt (Nat.le_refl _)) (by omega))
        rw [top_maxL HT.out] at HMX
        have hOlt : (w.heap.size + 1) < wr.heap.size := hr2.lt
        clear hE hr1 hr2
        go_wp2_with fail
        refine HMX.out.mono ?_
        rintro e w' ⟨rfl, rfl⟩
        go_wp2
        go_ret2
        exact ⟨_, by rw [HE.out]; rfl, by rw [HE.out]; exact (HR2.out.own (hi := wr.heap.size) (fun x hx => by have := HOO.out x hx; unfold I64; omega) (by omega) hOlt (Nat.le_refl _)).mono (show w.heap.size ≤ (w.heap.size + 1) by omega) (Nat.le_refl _) (Nat.le_refl _), hb⟩
set_option maxHeartbeats 400000 in
set_option maxRecDepth 100000 in
theorem listCmp_any (a b : Int) (w : World) :
    Calls Try.prog 98 #[.int .i64 a, .int .i64 b] w fun e w' => e = .returned (.int .i64 0) ∧ Drew w w' := by
  go_enter Try.func98, Try.ntmps98
  go_wp2
  go_ret
  exact ⟨rfl, Drew.refl _⟩
theorem ordTo_list (n : Nat) : ordTo (ltOf (fun _ _ => 0)) n = listOrder n := by
  induction n with
  | zero => rfl
  | succ n ih =>
    rw [ordTo, listOrder, ih]
    cases n with
    | zero => rfl
    | succ n => exact sinkAt_no (by simp [ltOf])
def longCmp (js : List JobD) (a b : Int) : Int := cmpI ((longs js).getD b.toNat 0) ((longs js).getD a.toNat 0)
theorem longCmp_lt (js : List JobD) (x y : Int) (hx : 0 ≤ x) (hx2 : x < (js.length : Int)) (hy : 0 ≤ y) (hy2 : y < (js.length : Int)) : ltOf (longCmp js) x y = keyLt (negs js) x y := by
  unfold ltOf longCmp keyLt
  rw [cmpI_lt, longs_getD _ _ (show x.toNat < js.length by omega), longs_getD _ _ (show y.toNat < js.length by omega)]
  have e : ∀ i : Nat, (h : i < js.length) → (negs js).getD i 0 = -js[i].x0 := fun i h => by simp [negs, List.getD, h]
  rw [e _ (show x.toNat < js.length by omega), e _ (show y.toNat < js.length by omega)]
  simp
set_option maxHeartbeats 800000 in
set_option maxRecDepth 100000 in
theorem longCmp_any {l h p : Nat} (v : Value) (js : List JobD) (w : World) (hp : w.cell? ⟨p, 0, none⟩ = some v) (hv : Jobs w l h v js) (a b : Int) (ha : 0 ≤ a) (ha2 : a < (js.length : Int)) (hb : 0 ≤ b) (hb2 : b < (js.length : Int)) (hz : js.length ≤ 1048576) :
    Calls Try.prog 115 #[.int .i64 a, .int .i64 b, .pointer (some ⟨p, 0, none⟩)] w fun e w' => e = .returned (.int .i64 (longCmp js a b)) ∧ Drew w w' := by
  obtain ⟨an, rfl⟩ : ∃ an : Nat, a = (an : Int) := ⟨a.toNat, by omega⟩
  obtain ⟨bn, rfl⟩ : ∃ bn : Nat, b = (bn : Int) := ⟨b.toNat, by omega⟩
  have h1 : an < js.length := by omega
  have h2 : bn < js.length := by omega
  obtain ⟨va, cap, rfl, hc1, hc2, hd⟩ := hv.out
  rcases hd with hd | ⟨blk, off, rfl, hb1, hbb2, hb3, hcell⟩
  · rw [hd] at h1; simp at h1
  have hca := (hcell an h1).1
  have hcb := (hcell bn h2).1
  have HE := Lib.hid (show longCmp js (an : Int) (bn : Int) = cmpI js[bn].x0 js[an].x0 by
    unfold longCmp; rw [Int.toNat_natCast, Int.toNat_natCast, longs_getD _ _ h1, longs_getD _ _ h2])
  clear hcell hv
  go_enter Try.func115, Try.ntmps115
  go_wp2_with fail
  go_quiet ((go_at_call 84; exact quiet_same (compare_any _ _ _)))
  go_wp2
  go_ret
  exact ⟨ret_int HE.out.symm, Drew.one _ _⟩
set_option maxHeartbeats 1600000 in
set_option maxRecDepth 100000 in
theorem implListPlan_any (w : World) {l h : Nat} (v : Value) (js : List JobD) (M : Int) (hv : Jobs w l h v js) (hh : h ≤ w.heap.size) (hz : js.length ≤ 1048576) (k : I64 M) :
    Calls Try.prog 39 #[v, .int .i64 M] w fun e w' => ∃ r, e = .returned (.tuple #[r, .int .i64 (listPlan js M).2.1, .bool (listPlan js M).2.2]) ∧ OwnI w' w.heap.size w'.heap.size r (listPlan js M).1 ∧ Below w.heap.size w w' := by
  cases hm : areMach js M
  · have HE := Lib.hid (show listPlan js M = ([], 0, false) by simp [listPlan, planOf, hm])
    go_enter Try.func39, Try.ntmps39
    go_wp2_with fail
    refine (areMachines_any v js M w hv hh hz).mono ?_
    rintro e w1 ⟨rfl, hb1⟩
    rw [hm]
    go_wp2
    go_ret3
    exact ⟨_, by rw [HE.out]; rfl, by rw [HE.out]; exact OwnI.nil _ _ _ (Nat.le_refl _), hb1⟩
  · obtain ⟨hJ, hM1, hM2⟩ := areMach_out hm
    have hl := areJobs_len hJ
    have HJ := Lib.hid hJ
    have HV := Lib.hid hv
    obtain ⟨a, cap, rfl, hc1, hc2, _⟩ := hv.out
    obtain ⟨Mn, rfl⟩ : ∃ Mn : Nat, M = (Mn : Int) := ⟨M.toNat, by omega⟩
    have HE := Lib.hid (show listPlan js (Mn : Int) = ((plan js (listOrder js.length) Mn).1, (plan js (listOrder js.length) Mn).2.2, true) by simp [listPlan, planOf, hm])
    clear hJ hv
    go_enter Try.func39, Try.ntmps39
    go_wp2_with fail
    refine (areMachines_any _ js Mn w HV.out hh hz).mono ?_
    rintro e w1 ⟨rfl, hb1⟩
    rw [hm]
    clear hm
    have hs1 := hb1.size
    have HO := Lib.hid (orderBy_any 98 (fun _ _ => by kernel_rfl) #[] (fun _ _ => 0) (n := js.length) w1 (by omega) (by omega) (fun wx hbw a b h1 h2 h3 h4 => listCmp_any a b wx))
    rw [ordTo_list] at HO
    go_wp2_with fail
    refine HO.out.mono ?_
    rintro e w2 ⟨u, rfl, ho2, hb2⟩
    have hbx := hb1.trans (hb2.mono hs1)
    have hs2 := hbx.size
    have HL := Lib.hid (listPlan_any _ _ js (listOrder js.length) Mn w2 (HV.out.below hbx hh) ho2.rd (by omega) (Nat.le_refl _) HJ.out (by omega) (listOrder_idx _) (by rw [listOrder_len]; omega))
    clear ho2
    go_wp2_with fail
    refine HL.out.mono ?_
    rintro e w4 ⟨r, rfl, ho4, hb4⟩
    have HO4 := Lib.hid ho4
    clear ho4
    go_wp2
    go_ret3
    exact ⟨_, by rw [HE.out]; rfl, by rw [HE.out]; exact HO4.out.mono hs2 (Nat.le_refl _) (Nat.le_refl _), hbx.trans (hb4.mono hs2)⟩
set_option maxHeartbeats 2000000 in
set_option maxRecDepth 100000 in
theorem implLongFirst_any (w : World) {l h : Nat} (v : Value) (js : List JobD) (M : Int) (hv : Jobs w l h v js) (hh : h ≤ w.heap.size) (hz : js.length ≤ 1048576) (k : I64 M) :
    Calls Try.prog 57 #[v, .int .i64 M] w fun e w' => ∃ r, e = .returned (.tuple #[r, .int .i64 (longFirst js M).2.1, .bool (longFirst js M).2.2]) ∧ OwnI w' w.heap.size w'.heap.size r (longFirst js M).1 ∧ Below w.heap.size w w' := by
  obtain ⟨va, cap, rfl, hc1, hc2, _⟩ := hv.out
  obtain ⟨W, hW⟩ : ∃ W, W = w.alloc (.cells #[.slice va js.length cap] 50) := ⟨_, rfl⟩
  have hBW : Below w.heap.size w W := by rw [hW]; exact below_newW _ _
  have hsW : w.heap.size < W.heap.size := by rw [hW]; simp
  have hbx : W.cell? ⟨w.heap.size, 0, none⟩ = some (.slice va js.length cap) := by rw [hW]; exact one_new _ _ _
  have HJ := Lib.hid (hv.below hBW hh)
  have HBX := Lib.hid hbx
  clear hv
  cases hm : areMach js M
  · have HE := Lib.hid (show longFirst js M = ([], 0, false) by simp [longFirst, planOf, hm])
    go_enter Try.func57, Try.ntmps57
    go_wp2_with fail
    rw [← hW]
    clear hW
    go_wp2_with fail
    refine (areMachines_any _ js M W HJ.out (by omega) hz).mono ?_
    rintro e w1 ⟨rfl, hb1⟩
    rw [hm]
    go_wp2
    go_ret3
    exact ⟨_, by rw [HE.out]; rfl, by rw [HE.out]; exact OwnI.nil _ _ _ (Nat.le_refl _), hBW.trans (hb1.mono (by omega))⟩
  · obtain ⟨hJ, hM1, hM2⟩ := areMach_out hm
    have hl := areJobs_len hJ
    have HJJ := Lib.hid hJ
    obtain ⟨Mn, rfl⟩ : ∃ Mn : Nat, M = (Mn : Int) := ⟨M.toNat, by omega⟩
    have HE := Lib.hid (show longFirst js (Mn : Int) = ((plan js (longOrder js) Mn).1, (plan js (longOrder js) Mn).2.2, true) by simp [longFirst, planOf, hm])
    have HLO : Hid (longOrder js = ordTo (keyLt (negs js)) js.length) := rfl
    have HLX : Hid (Idx js.length (longOrder js)) := by rw [HLO.out]; exact ordTo_idx _ _
    have HLL : Hid ((longOrder js).length ≤ 12) := by rw [Hid, HLO.out, ordTo_len]; omega
    clear hJ
    go_enter Try.func57, Try.ntmps57
    go_wp2_with fail
    rw [← hW]
    clear hW
    go_wp2_with fail
    refine (areMachines_any _ js Mn W HJ.out (by omega) hz).mono ?_
    rintro e w1 ⟨rfl, hb1⟩
    rw [hm]
    clear hm
    have hs1 := hb1.size
    have hbx1 : w1.cell? ⟨w.heap.size, 0, none⟩ = some (.slice va js.length cap) := by rw [hb1.cell (p := ⟨w.heap.size, 0, none⟩) hsW]; exact HBX.out
    have HBX1 := Lib.hid hbx1
    have HJ1 := Lib.hid (HJ.out.below hb1 (by omega))
    have hdD : Drew w1 w1.drew := ⟨1, rfl⟩
    have hsd : w1.drew.heap.size = w1.heap.size := by rw [hdD.heap]
    have HSD := Lib.hid hsd
    have hK : Hid (∀ w' : World, Below w1.heap.size w1 w' → w'.cell? ⟨w.heap.size, 0, none⟩ = some (.slice va js.length cap)) := fun w' hb => by
      rw [hb.cell (p := ⟨w.heap.size, 0, none⟩) (show w.heap.size < w1.heap.size by omega)]; exact HBX1.out
    have HO := Lib.hid (orderBy_any 115 (fun _ _ => by kernel_rfl) #[.pointer (some ⟨w.heap.size, 0, none⟩)] (longCmp js) (n := js.length) w1.drew hl.1 (by omega) (fun wx hbw a b h1 h2 h3 h4 => by
      have hbw' : Below w1.heap.size w1 wx := (hdD.below _).trans (by rw [← HSD.out]; exact hbw)
      exact longCmp_any _ js wx (hK.out wx hbw') (HJ1.out.below hbw' (by omega)) a b h1 h2 h3 h4 hz))
    rw [ordTo_congr (longCmp_lt js) js.length (Nat.le_refl _), ← HLO.out] at HO
    clear hbx hbx1 hsd
    go_wp2_with fail
    go_region_held3 (fun w' => w'.cell? ⟨w.heap.size, 0, none⟩ = some (.slice va js.length cap)) (first | exact hK.out _ (hdD.below _) | exact hK.out _ hb2 | exact hK.out _ hb3) (first | (go_at_call 82; refine HO.out.mono ?_; rintro e w2 ⟨u, rfl, ho2, hb2'⟩; have hb2 : Below w1.heap.size w1 w2 := (hdD.below _).trans (by rw [← HSD.out]; exact hb2')) | (go_at_call 97; refine (listPlan_any _ _ js (longOrder js) Mn w2 (HJ1.out.below hb2 (by omega)) ho2.rd (by have := hb2.size; omega) (Nat.le_refl _) HJJ.out (by omega) HLX.out HLL.out).mono ?_; rintro e w3 ⟨r, rfl, ho3, hb3'⟩; have hs2 := hb2.size; have hb3 : Below w1.heap.size w1 w3 := hb2.trans (hb3'.mono hs2)))
    all_goals
      have HO3 := Lib.hid ho3
      clear ho3
      go_wp2
      go_ret3
      exact ⟨_, by rw [HE.out]; rfl, by rw [HE.out]; exact HO3.out.mono (by omega) (Nat.le_refl _) (Nat.le_refl _), hBW.trans ((hb1.trans (hb3.mono hs1)).mono (by omega))⟩
end Go.Proofs.Ytcodlhogpmhdlaa
